import Derived.Test.YtbpgiodfccijmaaBTB
import Derived.Test.YtbpgiodfccijmaaBTD
namespace Go.Proofs.Ytbpgiodfccijmaa
open Go.Chi

/-! ### the form's methods, reading -/
theorem trEPerm {P : Program} {f : FuncId} {args : List Value} {M : Mem} {L L' : HL} {K : Ending → Mem → HL → Prop} (hp : L.Perm L') (h : TrE P f args M L' K) : TrE P f args M L K := ⟨h.1, fun w hw => h.2 w (hw.perm hp)⟩
theorem pN_sz {most : Nat} {s x : ByteArray} {v : Int} (h : pN most s = some (v, x)) : x.size ≤ s.size := by
  rw [(pN_back h).2.2, app_size]; omega
theorem pTm_sz {most : Nat} {s x t : ByteArray} (h : pTm most s = some (t, x)) : x.size ≤ s.size := by
  rw [(pTm_back h).2, app_size]; omega
theorem sgK_ret {α : Type} {o : Option (α × ByteArray)} {f : α → List Value} {br pb : Nat} {ty : TypeId} {s : ByteArray} {cs : List Value} {M M' : Mem} {L L' : HL} {v : Value} (h : sgK o f br pb ty s cs M L (.returned v) M' L') : ∃ x s', o = some (x, s') ∧ v = .tuple ⟨[]⟩ ∧ M' = M ∧ L' = rcB br s' :: obB pb (f x) ty :: L := by
  obtain ⟨h1, h2⟩ := h
  cases o with
  | none => cases h2.1
  | some x => exact ⟨x.1, x.2, rfl, (Ending.returned.injEq _ _).mp h2.1, h1, h2.2⟩
theorem sgK_pan {α : Type} {o : Option (α × ByteArray)} {f : α → List Value} {br pb : Nat} {ty : TypeId} {s : ByteArray} {cs : List Value} {M M' : Mem} {L L' : HL} {ch : List PanicEntry} (h : sgK o f br pb ty s cs M L (.panicked ch) M' L') : o = none ∧ ch = panS ∧ M' = M ∧ L' = rcB br s :: obB pb cs ty :: L := by
  obtain ⟨h1, h2⟩ := h
  cases o with
  | some x => cases h2.1
  | none => exact ⟨rfl, (Ending.panicked.injEq _ _).mp h2.1, h1, h2.2⟩
section
variable {C : Cx} {n : Nat} {ops : Array Oper} {k : List Item} {ds : List Deferred} {σ : Env} {δ : Den} {M : Mem} {L L0 : HL} {br pb po : Nat} {s : ByteArray} {i d : Nat} {ty yt : TypeId} {pos : String} {aft : Array Edge} {l : List Oper} {recv : Operand} {args : Array Operand} {tys : Array TypeId} {X : List Nat} {cs : List Value}
theorem prn_rnumI {most : Nat} (ho : ops[i]? = some ⟨some d, .call ⟨.invoke recv "chirograph/script.num", args, tys⟩, ty, pos, aft, none⟩) (hchk : (acyc ops && chkC ops (dn i) [i] && chkE1 ops (dn i) i) = true)
    (hx : ev σ δ [] recv = some (.iface rT (.pointer (some ⟨br, 0, none⟩)))) (ha : evs σ δ [] args.toList = some [.pointer (some ⟨pb, po, none⟩), .int .i64 (most : Int)]) (hp : L.Perm (rcB br s :: obB pb cs yt :: L0))
    (f : Int → List Value) (hf : ∀ v, setE cs po [Value.int .i64 v] = some (f v)) (hm : most < 4611686018427387904) (hs : s.size < 4611686018427387904) (hd : Nat.blt d n = true) (hn : lkd δ d = none) (hu : unNamed δ d = true)
    (h1 : pN most s = none → RunX Try.prog C n (.panicking panS) ds [] M (rcB br s :: obB pb cs yt :: L0))
    (h0 : ∀ v s', pN most s = some (v, s') → PendAll Try.prog C.b.roundOf ops σ δ M (rcB br s' :: obB pb (f v) yt :: L0) (open_ ops (dn i) X i) ∧ PR Try.prog C n ops k ds (dn (i + 1)) (i :: X) ((d, .tuple ⟨[]⟩) :: σ) δ M (rcB br s' :: obB pb (f v) yt :: L0)) :
    PR Try.prog C n ops k ds (dn i) X σ δ M L := by
  refine prn_invokeE ho hchk hx ha mr_num (trEPerm hp (srnum_ok M L0 br s pb po yt cs f hf most hm hs)) hd hn hu ?_ ?_
  · intro ch M' L' h
    obtain ⟨h2, rfl, rfl, rfl⟩ := sgK_pan h
    exact h1 h2
  · intro v M' L' h
    obtain ⟨x, s', h2, rfl, rfl, rfl⟩ := sgK_ret h
    exact h0 x s' h2
theorem prn_rtextI {most : Nat} (ho : ops[i]? = some ⟨some d, .call ⟨.invoke recv "chirograph/script.text", args, tys⟩, ty, pos, aft, none⟩) (hchk : (acyc ops && chkC ops (dn i) [i] && chkE1 ops (dn i) i) = true)
    (hx : ev σ δ [] recv = some (.iface rT (.pointer (some ⟨br, 0, none⟩)))) (ha : evs σ δ [] args.toList = some [.pointer (some ⟨pb, po, none⟩), .int .i64 (most : Int)]) (hp : L.Perm (rcB br s :: obB pb cs yt :: L0))
    (f : ByteArray → List Value) (hf : ∀ v, setE cs po [Value.string v] = some (f v)) (hm : most < 4611686018427387904) (hs : s.size < 4611686018427387904) (hd : Nat.blt d n = true) (hn : lkd δ d = none) (hu : unNamed δ d = true)
    (h1 : pTm most s = none → RunX Try.prog C n (.panicking panS) ds [] M (rcB br s :: obB pb cs yt :: L0))
    (h0 : ∀ v s', pTm most s = some (v, s') → PendAll Try.prog C.b.roundOf ops σ δ M (rcB br s' :: obB pb (f v) yt :: L0) (open_ ops (dn i) X i) ∧ PR Try.prog C n ops k ds (dn (i + 1)) (i :: X) ((d, .tuple ⟨[]⟩) :: σ) δ M (rcB br s' :: obB pb (f v) yt :: L0)) :
    PR Try.prog C n ops k ds (dn i) X σ δ M L := by
  refine prn_invokeE ho hchk hx ha mr_text (trEPerm hp (srtext_ok M L0 br s pb po yt cs f hf most hm hs)) hd hn hu ?_ ?_
  · intro ch M' L' h
    obtain ⟨h2, rfl, rfl, rfl⟩ := sgK_pan h
    exact h1 h2
  · intro v M' L' h
    obtain ⟨x, s', h2, rfl, rfl, rfl⟩ := sgK_ret h
    exact h0 x s' h2
theorem runL_rnumI {most : Nat} (hx : ev σ δ [] recv = some (.iface rT (.pointer (some ⟨br, 0, none⟩)))) (ha : evs σ δ [] args.toList = some [.pointer (some ⟨pb, po, none⟩), .int .i64 (most : Int)]) (hp : L.Perm (rcB br s :: obB pb cs yt :: L0))
    (f : Int → List Value) (hf : ∀ v, setE cs po [Value.int .i64 v] = some (f v)) (hm : most < 4611686018427387904) (hs : s.size < 4611686018427387904) (hd : Nat.blt d n = true) (hn : lkd δ d = none) (hu : unNamed δ d = true)
    (h1 : pN most s = none → RunX Try.prog C n (.panicking panS) ds σ M (rcB br s :: obB pb cs yt :: L0))
    (h0 : ∀ v s', pN most s = some (v, s') → RunL Try.prog C n ops l k ds ((d, .tuple ⟨[]⟩) :: σ) δ M (rcB br s' :: obB pb (f v) yt :: L0)) :
    RunL Try.prog C n ops (⟨some d, .call ⟨.invoke recv "chirograph/script.num", args, tys⟩, ty, pos, aft, none⟩ :: l) k ds σ δ M L := by
  refine runL_invokeE hx ha mr_num (trEPerm hp (srnum_ok M L0 br s pb po yt cs f hf most hm hs)) hd hn hu ?_ ?_
  · intro v M' L' h
    obtain ⟨x, s', h2, rfl, rfl, rfl⟩ := sgK_ret h
    exact h0 x s' h2
  · intro ch M' L' h
    obtain ⟨h2, rfl, rfl, rfl⟩ := sgK_pan h
    exact h1 h2
end
def rgK (o : Option (Aa × ByteArray)) (br ba : Nat) (M : Mem) (L : HL) (en : Ending) (M' : Mem) (L' : HL) : Prop :=
  M.le M' ∧ match o with | some x => en = .returned (.tuple ⟨[]⟩) ∧ ∃ a : Ax, a.aa = x.1 ∧ AxW M' a ∧ L' = rcB br x.2 :: axB ba a :: L | none => en = .panicked panS ∧ ∃ a : Ax, L' = axB ba a :: L
theorem rgK_some {br ba : Nat} {M M' : Mem} {L : HL} {a : Ax} {x : Aa} {s : ByteArray} (hm : M.le M') (h : AxW M' a) (hx : a.aa = x) : rgK (some (x, s)) br ba M L (.returned (.tuple ⟨[]⟩)) M' (rcB br s :: axB ba a :: L) := ⟨hm, rfl, a, hx, h, rfl⟩
theorem rgK_none {br ba : Nat} {M M' : Mem} {L : HL} (a : Ax) (hm : M.le M') : rgK none br ba M L (.panicked panS) M' (axB ba a :: L) := ⟨hm, rfl, a, rfl⟩
def sOrg (a : Aa) (s : ByteArray) : Option (Aa × ByteArray) := (pN 7 s).bind fun x => some ({ a with org := x.1 }, x.2)
def sAud (a : Aa) (s : ByteArray) : Option (Aa × ByteArray) := (pN 7 s).bind fun x => some ({ a with auditor := x.1 }, x.2)
def sNn (a : Aa) (s : ByteArray) : Option (Aa × ByteArray) := (pN 2147483647 s).bind fun x => some ({ a with n := x.1 }, x.2)
def sTxn (a : Aa) (s : ByteArray) : Option (Aa × ByteArray) := (pTx s).bind fun x => some ({ a with txn := x.1 }, x.2)
def sYes (a : Aa) (s : ByteArray) : Option (Aa × ByteArray) := (pY s).bind fun x => some ({ a with yes := x.1 }, x.2)
def sGiv (a : Aa) (s : ByteArray) : Option (Aa × ByteArray) := (pGives s).bind fun x => some ({ a with gives := x.1 }, x.2)
def sStp (a : Aa) (s : ByteArray) : Option (Aa × ByteArray) := (pSteps s).bind fun x => some ({ a with steps := x.1 }, x.2)
set_option maxRecDepth 10000 in
set_option maxHeartbeats 8000000 in
theorem rorgF_ok (M : Mem) (L : HL) (ba br : Nat) (s : ByteArray) (a : Ax) (hs : s.size < 4611686018427387904) (hq : AxW M a) :
    TrE Try.prog 46 [.agg ⟨fmC ba rT br⟩] M (rcB br s :: axB ba a :: L) (rgK (sOrg a.aa s) br ba M L) := by
  refine TrE.intro 11 Try.func46 rfl rfl Try.call46 rfl ?_
  intro C hC hro
  repeat (first | with_reducible (first | refine cS ?_ | refine cR ?_ | refine cN ?_ | refine cK ?_ | refine cB ?_ | refine cI ?_) | refine cE rfl ?_ | refine rq (qt_pev tok rfl) ?_ | refine rg rfl rfl (qt_pev tok rfl) ?_ | refine rq (ql tok rfl) ?_ | refine rg rfl rfl (ql tok rfl) ?_ | (refine runL_op0 (sst tok rfl rfl rfl rfl rfl) ?_; rintro _ _ _ ⟨rfl, rfl, rfl⟩) | ((first | refine ro (st_box rfl) ?_ | refine ro (st_alloc tok rfl) ?_ | refine ro (st_buildSlice tok rfl rfl rfl rfl rfl rfl rfl) ?_); rintro _ _ _ ⟨_, rfl, rfl, rfl⟩) | refine prn_start mixed ?_ | refine prn_end (by decide +kernel) ?_ | refine pq rfl (qt_pev tok rfl) ?_ | refine pg rfl rfl rfl (qt_pev tok rfl) ?_ | refine pq rfl (ql tok rfl) ?_ | refine pg rfl rfl rfl (ql tok rfl) ?_ | (refine prn_e0 rfl (sst tok rfl rfl rfl rfl rfl) (by decide +kernel) ?_; rintro _ _ _ ⟨rfl, rfl, rfl⟩) | ((first | refine pe rfl (st_box rfl) ?_ | refine pe rfl (st_alloc tok rfl) ?_ | refine pe rfl (st_buildSlice tok rfl rfl rfl rfl rfl rfl rfl) ?_); rintro _ _ _ ⟨_, rfl, rfl, rfl⟩) | (refine prn_o0 rfl (sst tok rfl rfl rfl rfl rfl) (by decide +kernel) ?_; rintro _ _ _ ⟨rfl, rfl, rfl⟩; refine ⟨by (repeat (first | exact trivial | refine And.intro (pend_q rfl rfl rfl (qt_pev tok rfl)) ?_ | refine And.intro (pend_q rfl rfl rfl (ql tok rfl)) ?_)), ?_⟩) | ((first | refine po rfl (st_box rfl) ?_ | refine po rfl (st_alloc tok rfl) ?_ | refine po rfl (st_buildSlice tok rfl rfl rfl rfl rfl rfl rfl) ?_); rintro _ _ _ ⟨_, rfl, rfl, rfl⟩; refine ⟨by (repeat (first | exact trivial | refine And.intro (pend_q rfl rfl rfl (qt_pev tok rfl)) ?_ | refine And.intro (pend_q rfl rfl rfl (ql tok rfl)) ?_)), ?_⟩) | (refine pe rfl (qt_pev tok rfl) ?_; rintro _ _ _ ⟨rfl, rfl, rfl⟩) | refine prn_q rfl (qt_nilIface rfl) (by decide +kernel) rfl rfl rfl ?_)
  refine prn_rnumI (most := 7) (cs := axC a) rfl (by decide +kernel) rfl rfl (p3 _ _ _ _).symm (fun v => axC { a with org := v }) (fun v => rfl) (by decide) hs rfl rfl rfl (fun hp => ?_) (fun v s' hp => ?_)
  · rw [sOrg, hp] at hC
    exact runX_pan hC (fun _ h => h.drop.drop2) (rgK_none a (Mem.le_refl _))
  · rw [sOrg, hp] at hC
    refine ⟨by (repeat (first | exact trivial | refine And.intro (pend_q rfl rfl rfl (qt_pev tok rfl)) ?_ | refine And.intro (pend_q rfl rfl rfl (ql tok rfl)) ?_)), ?_⟩
    repeat (first | with_reducible (first | refine cS ?_ | refine cR ?_ | refine cN ?_ | refine cK ?_ | refine cB ?_ | refine cI ?_) | refine cE rfl ?_ | refine rq (qt_pev tok rfl) ?_ | refine rg rfl rfl (qt_pev tok rfl) ?_ | refine rq (ql tok rfl) ?_ | refine rg rfl rfl (ql tok rfl) ?_ | (refine runL_op0 (sst tok rfl rfl rfl rfl rfl) ?_; rintro _ _ _ ⟨rfl, rfl, rfl⟩) | ((first | refine ro (st_box rfl) ?_ | refine ro (st_alloc tok rfl) ?_ | refine ro (st_buildSlice tok rfl rfl rfl rfl rfl rfl rfl) ?_); rintro _ _ _ ⟨_, rfl, rfl, rfl⟩) | refine prn_start mixed ?_ | refine prn_end (by decide +kernel) ?_ | refine pq rfl (qt_pev tok rfl) ?_ | refine pg rfl rfl rfl (qt_pev tok rfl) ?_ | refine pq rfl (ql tok rfl) ?_ | refine pg rfl rfl rfl (ql tok rfl) ?_ | (refine prn_e0 rfl (sst tok rfl rfl rfl rfl rfl) (by decide +kernel) ?_; rintro _ _ _ ⟨rfl, rfl, rfl⟩) | ((first | refine pe rfl (st_box rfl) ?_ | refine pe rfl (st_alloc tok rfl) ?_ | refine pe rfl (st_buildSlice tok rfl rfl rfl rfl rfl rfl rfl) ?_); rintro _ _ _ ⟨_, rfl, rfl, rfl⟩) | (refine prn_o0 rfl (sst tok rfl rfl rfl rfl rfl) (by decide +kernel) ?_; rintro _ _ _ ⟨rfl, rfl, rfl⟩; refine ⟨by (repeat (first | exact trivial | refine And.intro (pend_q rfl rfl rfl (qt_pev tok rfl)) ?_ | refine And.intro (pend_q rfl rfl rfl (ql tok rfl)) ?_)), ?_⟩) | ((first | refine po rfl (st_box rfl) ?_ | refine po rfl (st_alloc tok rfl) ?_ | refine po rfl (st_buildSlice tok rfl rfl rfl rfl rfl rfl rfl) ?_); rintro _ _ _ ⟨_, rfl, rfl, rfl⟩; refine ⟨by (repeat (first | exact trivial | refine And.intro (pend_q rfl rfl rfl (qt_pev tok rfl)) ?_ | refine And.intro (pend_q rfl rfl rfl (ql tok rfl)) ?_)), ?_⟩) | (refine pe rfl (qt_pev tok rfl) ?_; rintro _ _ _ ⟨rfl, rfl, rfl⟩))
    refine run_endX hro ?_
    exact runX_ret hC (rs := []) rfl (vs := []) trivial (fun _ h => (h.perm (p3 _ _ _ _)).drop) (rgK_some (a := { a with org := v }) (Mem.le_refl _) ⟨hq.gives, hq.steps, hq.pay⟩ rfl)
set_option maxRecDepth 10000 in
set_option maxHeartbeats 8000000 in
theorem rauditorF_ok (M : Mem) (L : HL) (ba br : Nat) (s : ByteArray) (a : Ax) (hs : s.size < 4611686018427387904) (hq : AxW M a) :
    TrE Try.prog 47 [.agg ⟨fmC ba rT br⟩] M (rcB br s :: axB ba a :: L) (rgK (sAud a.aa s) br ba M L) := by
  refine TrE.intro 11 Try.func47 rfl rfl Try.call47 rfl ?_
  intro C hC hro
  repeat (first | with_reducible (first | refine cS ?_ | refine cR ?_ | refine cN ?_ | refine cK ?_ | refine cB ?_ | refine cI ?_) | refine cE rfl ?_ | refine rq (qt_pev tok rfl) ?_ | refine rg rfl rfl (qt_pev tok rfl) ?_ | refine rq (ql tok rfl) ?_ | refine rg rfl rfl (ql tok rfl) ?_ | (refine runL_op0 (sst tok rfl rfl rfl rfl rfl) ?_; rintro _ _ _ ⟨rfl, rfl, rfl⟩) | ((first | refine ro (st_box rfl) ?_ | refine ro (st_alloc tok rfl) ?_ | refine ro (st_buildSlice tok rfl rfl rfl rfl rfl rfl rfl) ?_); rintro _ _ _ ⟨_, rfl, rfl, rfl⟩) | refine prn_start mixed ?_ | refine prn_end (by decide +kernel) ?_ | refine pq rfl (qt_pev tok rfl) ?_ | refine pg rfl rfl rfl (qt_pev tok rfl) ?_ | refine pq rfl (ql tok rfl) ?_ | refine pg rfl rfl rfl (ql tok rfl) ?_ | (refine prn_e0 rfl (sst tok rfl rfl rfl rfl rfl) (by decide +kernel) ?_; rintro _ _ _ ⟨rfl, rfl, rfl⟩) | ((first | refine pe rfl (st_box rfl) ?_ | refine pe rfl (st_alloc tok rfl) ?_ | refine pe rfl (st_buildSlice tok rfl rfl rfl rfl rfl rfl rfl) ?_); rintro _ _ _ ⟨_, rfl, rfl, rfl⟩) | (refine prn_o0 rfl (sst tok rfl rfl rfl rfl rfl) (by decide +kernel) ?_; rintro _ _ _ ⟨rfl, rfl, rfl⟩; refine ⟨by (repeat (first | exact trivial | refine And.intro (pend_q rfl rfl rfl (qt_pev tok rfl)) ?_ | refine And.intro (pend_q rfl rfl rfl (ql tok rfl)) ?_)), ?_⟩) | ((first | refine po rfl (st_box rfl) ?_ | refine po rfl (st_alloc tok rfl) ?_ | refine po rfl (st_buildSlice tok rfl rfl rfl rfl rfl rfl rfl) ?_); rintro _ _ _ ⟨_, rfl, rfl, rfl⟩; refine ⟨by (repeat (first | exact trivial | refine And.intro (pend_q rfl rfl rfl (qt_pev tok rfl)) ?_ | refine And.intro (pend_q rfl rfl rfl (ql tok rfl)) ?_)), ?_⟩) | (refine pe rfl (qt_pev tok rfl) ?_; rintro _ _ _ ⟨rfl, rfl, rfl⟩) | refine prn_q rfl (qt_nilIface rfl) (by decide +kernel) rfl rfl rfl ?_)
  refine prn_rnumI (most := 7) (cs := axC a) rfl (by decide +kernel) rfl rfl (p3 _ _ _ _).symm (fun v => axC { a with auditor := v }) (fun v => rfl) (by decide) hs rfl rfl rfl (fun hp => ?_) (fun v s' hp => ?_)
  · rw [sAud, hp] at hC
    exact runX_pan hC (fun _ h => h.drop.drop2) (rgK_none a (Mem.le_refl _))
  · rw [sAud, hp] at hC
    refine ⟨by (repeat (first | exact trivial | refine And.intro (pend_q rfl rfl rfl (qt_pev tok rfl)) ?_ | refine And.intro (pend_q rfl rfl rfl (ql tok rfl)) ?_)), ?_⟩
    repeat (first | with_reducible (first | refine cS ?_ | refine cR ?_ | refine cN ?_ | refine cK ?_ | refine cB ?_ | refine cI ?_) | refine cE rfl ?_ | refine rq (qt_pev tok rfl) ?_ | refine rg rfl rfl (qt_pev tok rfl) ?_ | refine rq (ql tok rfl) ?_ | refine rg rfl rfl (ql tok rfl) ?_ | (refine runL_op0 (sst tok rfl rfl rfl rfl rfl) ?_; rintro _ _ _ ⟨rfl, rfl, rfl⟩) | ((first | refine ro (st_box rfl) ?_ | refine ro (st_alloc tok rfl) ?_ | refine ro (st_buildSlice tok rfl rfl rfl rfl rfl rfl rfl) ?_); rintro _ _ _ ⟨_, rfl, rfl, rfl⟩) | refine prn_start mixed ?_ | refine prn_end (by decide +kernel) ?_ | refine pq rfl (qt_pev tok rfl) ?_ | refine pg rfl rfl rfl (qt_pev tok rfl) ?_ | refine pq rfl (ql tok rfl) ?_ | refine pg rfl rfl rfl (ql tok rfl) ?_ | (refine prn_e0 rfl (sst tok rfl rfl rfl rfl rfl) (by decide +kernel) ?_; rintro _ _ _ ⟨rfl, rfl, rfl⟩) | ((first | refine pe rfl (st_box rfl) ?_ | refine pe rfl (st_alloc tok rfl) ?_ | refine pe rfl (st_buildSlice tok rfl rfl rfl rfl rfl rfl rfl) ?_); rintro _ _ _ ⟨_, rfl, rfl, rfl⟩) | (refine prn_o0 rfl (sst tok rfl rfl rfl rfl rfl) (by decide +kernel) ?_; rintro _ _ _ ⟨rfl, rfl, rfl⟩; refine ⟨by (repeat (first | exact trivial | refine And.intro (pend_q rfl rfl rfl (qt_pev tok rfl)) ?_ | refine And.intro (pend_q rfl rfl rfl (ql tok rfl)) ?_)), ?_⟩) | ((first | refine po rfl (st_box rfl) ?_ | refine po rfl (st_alloc tok rfl) ?_ | refine po rfl (st_buildSlice tok rfl rfl rfl rfl rfl rfl rfl) ?_); rintro _ _ _ ⟨_, rfl, rfl, rfl⟩; refine ⟨by (repeat (first | exact trivial | refine And.intro (pend_q rfl rfl rfl (qt_pev tok rfl)) ?_ | refine And.intro (pend_q rfl rfl rfl (ql tok rfl)) ?_)), ?_⟩) | (refine pe rfl (qt_pev tok rfl) ?_; rintro _ _ _ ⟨rfl, rfl, rfl⟩))
    refine run_endX hro ?_
    exact runX_ret hC (rs := []) rfl (vs := []) trivial (fun _ h => (h.perm (p3 _ _ _ _)).drop) (rgK_some (a := { a with auditor := v }) (Mem.le_refl _) ⟨hq.gives, hq.steps, hq.pay⟩ rfl)
set_option maxRecDepth 10000 in
set_option maxHeartbeats 8000000 in
theorem rnF_ok (M : Mem) (L : HL) (ba br : Nat) (s : ByteArray) (a : Ax) (hs : s.size < 4611686018427387904) (hq : AxW M a) :
    TrE Try.prog 51 [.agg ⟨fmC ba rT br⟩] M (rcB br s :: axB ba a :: L) (rgK (sNn a.aa s) br ba M L) := by
  refine TrE.intro 11 Try.func51 rfl rfl Try.call51 rfl ?_
  intro C hC hro
  repeat (first | with_reducible (first | refine cS ?_ | refine cR ?_ | refine cN ?_ | refine cK ?_ | refine cB ?_ | refine cI ?_) | refine cE rfl ?_ | refine rq (qt_pev tok rfl) ?_ | refine rg rfl rfl (qt_pev tok rfl) ?_ | refine rq (ql tok rfl) ?_ | refine rg rfl rfl (ql tok rfl) ?_ | (refine runL_op0 (sst tok rfl rfl rfl rfl rfl) ?_; rintro _ _ _ ⟨rfl, rfl, rfl⟩) | ((first | refine ro (st_box rfl) ?_ | refine ro (st_alloc tok rfl) ?_ | refine ro (st_buildSlice tok rfl rfl rfl rfl rfl rfl rfl) ?_); rintro _ _ _ ⟨_, rfl, rfl, rfl⟩) | refine prn_start mixed ?_ | refine prn_end (by decide +kernel) ?_ | refine pq rfl (qt_pev tok rfl) ?_ | refine pg rfl rfl rfl (qt_pev tok rfl) ?_ | refine pq rfl (ql tok rfl) ?_ | refine pg rfl rfl rfl (ql tok rfl) ?_ | (refine prn_e0 rfl (sst tok rfl rfl rfl rfl rfl) (by decide +kernel) ?_; rintro _ _ _ ⟨rfl, rfl, rfl⟩) | ((first | refine pe rfl (st_box rfl) ?_ | refine pe rfl (st_alloc tok rfl) ?_ | refine pe rfl (st_buildSlice tok rfl rfl rfl rfl rfl rfl rfl) ?_); rintro _ _ _ ⟨_, rfl, rfl, rfl⟩) | (refine prn_o0 rfl (sst tok rfl rfl rfl rfl rfl) (by decide +kernel) ?_; rintro _ _ _ ⟨rfl, rfl, rfl⟩; refine ⟨by (repeat (first | exact trivial | refine And.intro (pend_q rfl rfl rfl (qt_pev tok rfl)) ?_ | refine And.intro (pend_q rfl rfl rfl (ql tok rfl)) ?_)), ?_⟩) | ((first | refine po rfl (st_box rfl) ?_ | refine po rfl (st_alloc tok rfl) ?_ | refine po rfl (st_buildSlice tok rfl rfl rfl rfl rfl rfl rfl) ?_); rintro _ _ _ ⟨_, rfl, rfl, rfl⟩; refine ⟨by (repeat (first | exact trivial | refine And.intro (pend_q rfl rfl rfl (qt_pev tok rfl)) ?_ | refine And.intro (pend_q rfl rfl rfl (ql tok rfl)) ?_)), ?_⟩) | (refine pe rfl (qt_pev tok rfl) ?_; rintro _ _ _ ⟨rfl, rfl, rfl⟩) | refine prn_q rfl (qt_nilIface rfl) (by decide +kernel) rfl rfl rfl ?_)
  refine prn_rnumI (most := 2147483647) (cs := axC a) rfl (by decide +kernel) rfl rfl (p3 _ _ _ _).symm (fun v => axC { a with n := v }) (fun v => rfl) (by decide) hs rfl rfl rfl (fun hp => ?_) (fun v s' hp => ?_)
  · rw [sNn, hp] at hC
    exact runX_pan hC (fun _ h => h.drop.drop2) (rgK_none a (Mem.le_refl _))
  · rw [sNn, hp] at hC
    refine ⟨by (repeat (first | exact trivial | refine And.intro (pend_q rfl rfl rfl (qt_pev tok rfl)) ?_ | refine And.intro (pend_q rfl rfl rfl (ql tok rfl)) ?_)), ?_⟩
    repeat (first | with_reducible (first | refine cS ?_ | refine cR ?_ | refine cN ?_ | refine cK ?_ | refine cB ?_ | refine cI ?_) | refine cE rfl ?_ | refine rq (qt_pev tok rfl) ?_ | refine rg rfl rfl (qt_pev tok rfl) ?_ | refine rq (ql tok rfl) ?_ | refine rg rfl rfl (ql tok rfl) ?_ | (refine runL_op0 (sst tok rfl rfl rfl rfl rfl) ?_; rintro _ _ _ ⟨rfl, rfl, rfl⟩) | ((first | refine ro (st_box rfl) ?_ | refine ro (st_alloc tok rfl) ?_ | refine ro (st_buildSlice tok rfl rfl rfl rfl rfl rfl rfl) ?_); rintro _ _ _ ⟨_, rfl, rfl, rfl⟩) | refine prn_start mixed ?_ | refine prn_end (by decide +kernel) ?_ | refine pq rfl (qt_pev tok rfl) ?_ | refine pg rfl rfl rfl (qt_pev tok rfl) ?_ | refine pq rfl (ql tok rfl) ?_ | refine pg rfl rfl rfl (ql tok rfl) ?_ | (refine prn_e0 rfl (sst tok rfl rfl rfl rfl rfl) (by decide +kernel) ?_; rintro _ _ _ ⟨rfl, rfl, rfl⟩) | ((first | refine pe rfl (st_box rfl) ?_ | refine pe rfl (st_alloc tok rfl) ?_ | refine pe rfl (st_buildSlice tok rfl rfl rfl rfl rfl rfl rfl) ?_); rintro _ _ _ ⟨_, rfl, rfl, rfl⟩) | (refine prn_o0 rfl (sst tok rfl rfl rfl rfl rfl) (by decide +kernel) ?_; rintro _ _ _ ⟨rfl, rfl, rfl⟩; refine ⟨by (repeat (first | exact trivial | refine And.intro (pend_q rfl rfl rfl (qt_pev tok rfl)) ?_ | refine And.intro (pend_q rfl rfl rfl (ql tok rfl)) ?_)), ?_⟩) | ((first | refine po rfl (st_box rfl) ?_ | refine po rfl (st_alloc tok rfl) ?_ | refine po rfl (st_buildSlice tok rfl rfl rfl rfl rfl rfl rfl) ?_); rintro _ _ _ ⟨_, rfl, rfl, rfl⟩; refine ⟨by (repeat (first | exact trivial | refine And.intro (pend_q rfl rfl rfl (qt_pev tok rfl)) ?_ | refine And.intro (pend_q rfl rfl rfl (ql tok rfl)) ?_)), ?_⟩) | (refine pe rfl (qt_pev tok rfl) ?_; rintro _ _ _ ⟨rfl, rfl, rfl⟩))
    refine run_endX hro ?_
    exact runX_ret hC (rs := []) rfl (vs := []) trivial (fun _ h => (h.perm (p3 _ _ _ _)).drop) (rgK_some (a := { a with n := v }) (Mem.le_refl _) ⟨hq.gives, hq.steps, hq.pay⟩ rfl)
end Go.Proofs.Ytbpgiodfccijmaa
namespace Go.Proofs.Ytbpgiodfccijmaa
open Go.Chi

set_option maxRecDepth 10000 in
set_option maxHeartbeats 16000000 in
theorem rtxnF_ok (M : Mem) (L : HL) (ba br : Nat) (s : ByteArray) (a : Ax) (hs : s.size < 4611686018427387904) (hq : AxW M a) :
    TrE Try.prog 49 [.agg ⟨fmC ba rT br⟩] M (rcB br s :: axB ba a :: L) (rgK (sTxn a.aa s) br ba M L) := by
  refine TrE.intro 32 Try.func49 rfl rfl Try.call49 rfl ?_
  intro C hC hro
  repeat (first | with_reducible (first | refine cS ?_ | refine cR ?_ | refine cN ?_ | refine cK ?_ | refine cB ?_ | refine cI ?_) | refine cE rfl ?_ | refine rq (qt_pev tok rfl) ?_ | refine rg rfl rfl (qt_pev tok rfl) ?_ | refine rq (ql tok rfl) ?_ | refine rg rfl rfl (ql tok rfl) ?_ | (refine runL_op0 (sst tok rfl rfl rfl rfl rfl) ?_; rintro _ _ _ ⟨rfl, rfl, rfl⟩) | ((first | refine ro (st_box rfl) ?_ | refine ro (st_alloc tok rfl) ?_ | refine ro (st_buildSlice tok rfl rfl rfl rfl rfl rfl rfl) ?_); rintro _ _ _ ⟨_, rfl, rfl, rfl⟩) | refine prn_start mixed ?_ | refine prn_end (by decide +kernel) ?_ | refine pq rfl (qt_pev tok rfl) ?_ | refine pg rfl rfl rfl (qt_pev tok rfl) ?_ | refine pq rfl (ql tok rfl) ?_ | refine pg rfl rfl rfl (ql tok rfl) ?_ | (refine prn_e0 rfl (sst tok rfl rfl rfl rfl rfl) (by decide +kernel) ?_; rintro _ _ _ ⟨rfl, rfl, rfl⟩) | ((first | refine pe rfl (st_box rfl) ?_ | refine pe rfl (st_alloc tok rfl) ?_ | refine pe rfl (st_buildSlice tok rfl rfl rfl rfl rfl rfl rfl) ?_); rintro _ _ _ ⟨_, rfl, rfl, rfl⟩) | (refine prn_o0 rfl (sst tok rfl rfl rfl rfl rfl) (by decide +kernel) ?_; rintro _ _ _ ⟨rfl, rfl, rfl⟩; refine ⟨by (repeat (first | exact trivial | refine And.intro (pend_q rfl rfl rfl (qt_pev tok rfl)) ?_ | refine And.intro (pend_q rfl rfl rfl (ql tok rfl)) ?_)), ?_⟩) | ((first | refine po rfl (st_box rfl) ?_ | refine po rfl (st_alloc tok rfl) ?_ | refine po rfl (st_buildSlice tok rfl rfl rfl rfl rfl rfl rfl) ?_); rintro _ _ _ ⟨_, rfl, rfl, rfl⟩; refine ⟨by (repeat (first | exact trivial | refine And.intro (pend_q rfl rfl rfl (qt_pev tok rfl)) ?_ | refine And.intro (pend_q rfl rfl rfl (ql tok rfl)) ?_)), ?_⟩) | (refine pe rfl (qt_pev tok rfl) ?_; rintro _ _ _ ⟨rfl, rfl, rfl⟩) | refine prn_q rfl (qt_nilIface rfl) (by decide +kernel) rfl rfl rfl ?_)
  refine prn_rnumI (most := 7) (cs := axC a) rfl (by decide +kernel) rfl rfl (p3 _ _ _ _).symm (fun v => axC { a with txn := { a.txn with coord := v } }) (fun v => rfl) (by decide) hs rfl rfl rfl (fun hp => ?_) (fun v1 s1 hp1 => ?_)
  · rw [sTxn, pTx, hp] at hC
    exact runX_pan hC (fun _ h => h.drop.drop2) (rgK_none a (Mem.le_refl _))
  have z1 := pN_sz hp1
  refine ⟨by (repeat (first | exact trivial | refine And.intro (pend_q rfl rfl rfl (qt_pev tok rfl)) ?_ | refine And.intro (pend_q rfl rfl rfl (ql tok rfl)) ?_)), ?_⟩
  repeat (first | with_reducible (first | refine cS ?_ | refine cR ?_ | refine cN ?_ | refine cK ?_ | refine cB ?_ | refine cI ?_) | refine cE rfl ?_ | refine rq (qt_pev tok rfl) ?_ | refine rg rfl rfl (qt_pev tok rfl) ?_ | refine rq (ql tok rfl) ?_ | refine rg rfl rfl (ql tok rfl) ?_ | (refine runL_op0 (sst tok rfl rfl rfl rfl rfl) ?_; rintro _ _ _ ⟨rfl, rfl, rfl⟩) | ((first | refine ro (st_box rfl) ?_ | refine ro (st_alloc tok rfl) ?_ | refine ro (st_buildSlice tok rfl rfl rfl rfl rfl rfl rfl) ?_); rintro _ _ _ ⟨_, rfl, rfl, rfl⟩) | refine prn_start mixed ?_ | refine prn_end (by decide +kernel) ?_ | refine pq rfl (qt_pev tok rfl) ?_ | refine pg rfl rfl rfl (qt_pev tok rfl) ?_ | refine pq rfl (ql tok rfl) ?_ | refine pg rfl rfl rfl (ql tok rfl) ?_ | (refine prn_e0 rfl (sst tok rfl rfl rfl rfl rfl) (by decide +kernel) ?_; rintro _ _ _ ⟨rfl, rfl, rfl⟩) | ((first | refine pe rfl (st_box rfl) ?_ | refine pe rfl (st_alloc tok rfl) ?_ | refine pe rfl (st_buildSlice tok rfl rfl rfl rfl rfl rfl rfl) ?_); rintro _ _ _ ⟨_, rfl, rfl, rfl⟩) | (refine prn_o0 rfl (sst tok rfl rfl rfl rfl rfl) (by decide +kernel) ?_; rintro _ _ _ ⟨rfl, rfl, rfl⟩; refine ⟨by (repeat (first | exact trivial | refine And.intro (pend_q rfl rfl rfl (qt_pev tok rfl)) ?_ | refine And.intro (pend_q rfl rfl rfl (ql tok rfl)) ?_)), ?_⟩) | ((first | refine po rfl (st_box rfl) ?_ | refine po rfl (st_alloc tok rfl) ?_ | refine po rfl (st_buildSlice tok rfl rfl rfl rfl rfl rfl rfl) ?_); rintro _ _ _ ⟨_, rfl, rfl, rfl⟩; refine ⟨by (repeat (first | exact trivial | refine And.intro (pend_q rfl rfl rfl (qt_pev tok rfl)) ?_ | refine And.intro (pend_q rfl rfl rfl (ql tok rfl)) ?_)), ?_⟩) | (refine pe rfl (qt_pev tok rfl) ?_; rintro _ _ _ ⟨rfl, rfl, rfl⟩) | refine prn_q rfl (qt_nilIface rfl) (by decide +kernel) rfl rfl rfl ?_)
  refine prn_rnumI (most := 255) (cs := axC { a with txn := { a.txn with coord := v1 } }) rfl (by decide +kernel) rfl rfl (List.Perm.refl _) (fun v => axC { a with txn := ⟨v1, v, a.txn.seq⟩ }) (fun v => rfl) (by decide) (by omega) rfl rfl rfl (fun hp => ?_) (fun v2 s2 hp2 => ?_)
  · rw [sTxn, pTx, hp1, Option.bind_some, hp] at hC
    exact runX_pan hC (fun _ h => h.drop.drop2) (rgK_none { a with txn := { a.txn with coord := v1 } } (Mem.le_refl _))
  have z2 := pN_sz hp2
  refine ⟨by (repeat (first | exact trivial | refine And.intro (pend_q rfl rfl rfl (qt_pev tok rfl)) ?_ | refine And.intro (pend_q rfl rfl rfl (ql tok rfl)) ?_)), ?_⟩
  repeat (first | with_reducible (first | refine cS ?_ | refine cR ?_ | refine cN ?_ | refine cK ?_ | refine cB ?_ | refine cI ?_) | refine cE rfl ?_ | refine rq (qt_pev tok rfl) ?_ | refine rg rfl rfl (qt_pev tok rfl) ?_ | refine rq (ql tok rfl) ?_ | refine rg rfl rfl (ql tok rfl) ?_ | (refine runL_op0 (sst tok rfl rfl rfl rfl rfl) ?_; rintro _ _ _ ⟨rfl, rfl, rfl⟩) | ((first | refine ro (st_box rfl) ?_ | refine ro (st_alloc tok rfl) ?_ | refine ro (st_buildSlice tok rfl rfl rfl rfl rfl rfl rfl) ?_); rintro _ _ _ ⟨_, rfl, rfl, rfl⟩) | refine prn_start mixed ?_ | refine prn_end (by decide +kernel) ?_ | refine pq rfl (qt_pev tok rfl) ?_ | refine pg rfl rfl rfl (qt_pev tok rfl) ?_ | refine pq rfl (ql tok rfl) ?_ | refine pg rfl rfl rfl (ql tok rfl) ?_ | (refine prn_e0 rfl (sst tok rfl rfl rfl rfl rfl) (by decide +kernel) ?_; rintro _ _ _ ⟨rfl, rfl, rfl⟩) | ((first | refine pe rfl (st_box rfl) ?_ | refine pe rfl (st_alloc tok rfl) ?_ | refine pe rfl (st_buildSlice tok rfl rfl rfl rfl rfl rfl rfl) ?_); rintro _ _ _ ⟨_, rfl, rfl, rfl⟩) | (refine prn_o0 rfl (sst tok rfl rfl rfl rfl rfl) (by decide +kernel) ?_; rintro _ _ _ ⟨rfl, rfl, rfl⟩; refine ⟨by (repeat (first | exact trivial | refine And.intro (pend_q rfl rfl rfl (qt_pev tok rfl)) ?_ | refine And.intro (pend_q rfl rfl rfl (ql tok rfl)) ?_)), ?_⟩) | ((first | refine po rfl (st_box rfl) ?_ | refine po rfl (st_alloc tok rfl) ?_ | refine po rfl (st_buildSlice tok rfl rfl rfl rfl rfl rfl rfl) ?_); rintro _ _ _ ⟨_, rfl, rfl, rfl⟩; refine ⟨by (repeat (first | exact trivial | refine And.intro (pend_q rfl rfl rfl (qt_pev tok rfl)) ?_ | refine And.intro (pend_q rfl rfl rfl (ql tok rfl)) ?_)), ?_⟩) | (refine pe rfl (qt_pev tok rfl) ?_; rintro _ _ _ ⟨rfl, rfl, rfl⟩) | refine prn_q rfl (qt_nilIface rfl) (by decide +kernel) rfl rfl rfl ?_)
  refine prn_rnumI (most := 65535) (cs := axC { a with txn := ⟨v1, v2, a.txn.seq⟩ }) rfl (by decide +kernel) rfl rfl (List.Perm.refl _) (fun v => axC { a with txn := ⟨v1, v2, v⟩ }) (fun v => rfl) (by decide) (by omega) rfl rfl rfl (fun hp => ?_) (fun v3 s3 hp3 => ?_)
  · rw [sTxn, pTx, hp1, Option.bind_some, hp2, Option.bind_some, hp] at hC
    exact runX_pan hC (fun _ h => h.drop.drop2) (rgK_none { a with txn := ⟨v1, v2, a.txn.seq⟩ } (Mem.le_refl _))
  rw [sTxn, pTx, hp1, Option.bind_some, hp2, Option.bind_some, hp3, Option.bind_some] at hC
  refine ⟨by (repeat (first | exact trivial | refine And.intro (pend_q rfl rfl rfl (qt_pev tok rfl)) ?_ | refine And.intro (pend_q rfl rfl rfl (ql tok rfl)) ?_)), ?_⟩
  repeat (first | with_reducible (first | refine cS ?_ | refine cR ?_ | refine cN ?_ | refine cK ?_ | refine cB ?_ | refine cI ?_) | refine cE rfl ?_ | refine rq (qt_pev tok rfl) ?_ | refine rg rfl rfl (qt_pev tok rfl) ?_ | refine rq (ql tok rfl) ?_ | refine rg rfl rfl (ql tok rfl) ?_ | (refine runL_op0 (sst tok rfl rfl rfl rfl rfl) ?_; rintro _ _ _ ⟨rfl, rfl, rfl⟩) | ((first | refine ro (st_box rfl) ?_ | refine ro (st_alloc tok rfl) ?_ | refine ro (st_buildSlice tok rfl rfl rfl rfl rfl rfl rfl) ?_); rintro _ _ _ ⟨_, rfl, rfl, rfl⟩) | refine prn_start mixed ?_ | refine prn_end (by decide +kernel) ?_ | refine pq rfl (qt_pev tok rfl) ?_ | refine pg rfl rfl rfl (qt_pev tok rfl) ?_ | refine pq rfl (ql tok rfl) ?_ | refine pg rfl rfl rfl (ql tok rfl) ?_ | (refine prn_e0 rfl (sst tok rfl rfl rfl rfl rfl) (by decide +kernel) ?_; rintro _ _ _ ⟨rfl, rfl, rfl⟩) | ((first | refine pe rfl (st_box rfl) ?_ | refine pe rfl (st_alloc tok rfl) ?_ | refine pe rfl (st_buildSlice tok rfl rfl rfl rfl rfl rfl rfl) ?_); rintro _ _ _ ⟨_, rfl, rfl, rfl⟩) | (refine prn_o0 rfl (sst tok rfl rfl rfl rfl rfl) (by decide +kernel) ?_; rintro _ _ _ ⟨rfl, rfl, rfl⟩; refine ⟨by (repeat (first | exact trivial | refine And.intro (pend_q rfl rfl rfl (qt_pev tok rfl)) ?_ | refine And.intro (pend_q rfl rfl rfl (ql tok rfl)) ?_)), ?_⟩) | ((first | refine po rfl (st_box rfl) ?_ | refine po rfl (st_alloc tok rfl) ?_ | refine po rfl (st_buildSlice tok rfl rfl rfl rfl rfl rfl rfl) ?_); rintro _ _ _ ⟨_, rfl, rfl, rfl⟩; refine ⟨by (repeat (first | exact trivial | refine And.intro (pend_q rfl rfl rfl (qt_pev tok rfl)) ?_ | refine And.intro (pend_q rfl rfl rfl (ql tok rfl)) ?_)), ?_⟩) | (refine pe rfl (qt_pev tok rfl) ?_; rintro _ _ _ ⟨rfl, rfl, rfl⟩))
  refine run_endX hro ?_
  exact runX_ret hC (rs := []) rfl (vs := []) trivial (fun _ h => (h.perm (p3 _ _ _ _)).drop) (rgK_some (a := { a with txn := ⟨v1, v2, v3⟩ }) (Mem.le_refl _) ⟨hq.gives, hq.steps, hq.pay⟩ rfl)
set_option maxRecDepth 10000 in
set_option maxHeartbeats 16000000 in
theorem ryesF_ok (M : Mem) (L : HL) (ba br : Nat) (s : ByteArray) (a : Ax) (hs : s.size < 4611686018427387904) (hq : AxW M a) :
    TrE Try.prog 50 [.agg ⟨fmC ba rT br⟩] M (rcB br s :: axB ba a :: L) (rgK (sYes a.aa s) br ba M L) := by
  refine TrE.intro 17 Try.func50 rfl rfl Try.call50 rfl ?_
  intro C hC hro
  repeat (first | with_reducible (first | refine cS ?_ | refine cR ?_ | refine cN ?_ | refine cK ?_ | refine cB ?_ | refine cI ?_) | refine cE rfl ?_ | refine rq (qt_pev tok rfl) ?_ | refine rg rfl rfl (qt_pev tok rfl) ?_ | refine rq (ql tok rfl) ?_ | refine rg rfl rfl (ql tok rfl) ?_ | (refine runL_op0 (sst tok rfl rfl rfl rfl rfl) ?_; rintro _ _ _ ⟨rfl, rfl, rfl⟩) | ((first | refine ro (st_box rfl) ?_ | refine ro (st_alloc tok rfl) ?_ | refine ro (st_buildSlice tok rfl rfl rfl rfl rfl rfl rfl) ?_); rintro _ _ _ ⟨_, rfl, rfl, rfl⟩))
  rename_i bf b2
  refine run_cut (fun σ' M' L' => ∃ n : Int, σ' = [(2, .pointer (some ⟨b2, 0, none⟩)), (1, .pointer (some ⟨bf, 0, none⟩))] ∧ M = M' ∧ L' = (b2, .cells ⟨[.int .i64 n]⟩ 3 (0, 0)) :: (bf, .cells ⟨fmC ba rT br⟩ 78 (0, 0)) :: rcB br s :: axB ba a :: L) ?_ ?_
  · rintro _ _ _ ⟨n, rfl, rfl, rfl⟩
    repeat (first | with_reducible (first | refine cS ?_ | refine cR ?_ | refine cN ?_ | refine cK ?_ | refine cB ?_ | refine cI ?_) | refine cE rfl ?_ | refine rq (qt_pev tok rfl) ?_ | refine rg rfl rfl (qt_pev tok rfl) ?_ | refine rq (ql tok rfl) ?_ | refine rg rfl rfl (ql tok rfl) ?_ | (refine runL_op0 (sst tok rfl rfl rfl rfl rfl) ?_; rintro _ _ _ ⟨rfl, rfl, rfl⟩) | ((first | refine ro (st_box rfl) ?_ | refine ro (st_alloc tok rfl) ?_ | refine ro (st_buildSlice tok rfl rfl rfl rfl rfl rfl rfl) ?_); rintro _ _ _ ⟨_, rfl, rfl, rfl⟩))
    refine runL_rnumI (most := 1) (cs := [.int .i64 n]) rfl rfl (p3 _ _ _ _) (fun v => [.int .i64 v]) (fun v => rfl) (by decide) hs rfl rfl rfl (fun hp => ?_) (fun v1 s1 hp1 => ?_)
    · rw [sYes, pY, hp] at hC
      exact runX_pan hC (fun _ h => h.drop.drop.drop) (rgK_none a (Mem.le_refl _))
    rw [sYes, pY, hp1, Option.bind_some, Option.bind_some] at hC
    repeat (first | with_reducible (first | refine cS ?_ | refine cR ?_ | refine cN ?_ | refine cK ?_ | refine cB ?_ | refine cI ?_) | refine cE rfl ?_ | refine rq (qt_pev tok rfl) ?_ | refine rg rfl rfl (qt_pev tok rfl) ?_ | refine rq (ql tok rfl) ?_ | refine rg rfl rfl (ql tok rfl) ?_ | (refine runL_op0 (sst tok rfl rfl rfl rfl rfl) ?_; rintro _ _ _ ⟨rfl, rfl, rfl⟩) | ((first | refine ro (st_box rfl) ?_ | refine ro (st_alloc tok rfl) ?_ | refine ro (st_buildSlice tok rfl rfl rfl rfl rfl rfl rfl) ?_); rintro _ _ _ ⟨_, rfl, rfl, rfl⟩))
    refine run_endX hro ?_
    exact runX_ret hC (rs := []) rfl (vs := []) trivial (fun _ h => h.drop2.drop2) (rgK_some (a := { a with yes := v1 == 1 }) (Mem.le_refl _) ⟨hq.gives, hq.steps, hq.pay⟩ rfl)
  · intro hnext
    refine run_cond rfl (fun h => ?_) (fun h => ?_)
    · refine run_region ?_
      repeat (first | refine rq (qt_pev tok rfl) ?_ | refine rg rfl rfl (qt_pev tok rfl) ?_ | refine rq (ql tok rfl) ?_ | refine rg rfl rfl (ql tok rfl) ?_ | (refine runL_op0 (sst tok rfl rfl rfl rfl rfl) ?_; rintro _ _ _ ⟨rfl, rfl, rfl⟩) | ((first | refine ro (st_box rfl) ?_ | refine ro (st_alloc tok rfl) ?_ | refine ro (st_buildSlice tok rfl rfl rfl rfl rfl rfl rfl) ?_); rintro _ _ _ ⟨_, rfl, rfl, rfl⟩))
      refine runL_nil ?_
      exact run_sub' (hnext _ _ _ ⟨1, rfl, rfl, rfl⟩) ⟨rfl, rfl, trivial⟩
    · refine run_skip ?_
      exact run_sub' (hnext _ _ _ ⟨0, rfl, rfl, rfl⟩) ⟨rfl, rfl, trivial⟩
end Go.Proofs.Ytbpgiodfccijmaa
namespace Go.Proofs.Ytbpgiodfccijmaa
open Go.Chi

/-! ### rows, reading: what makes the room -/
theorem trCons {P : Program} {f : FuncId} {args : List Value} {M : Mem} {L : HL} {K K' : Value → Mem → HL → Prop} (h : Tr P f args M L K) (hk : ∀ v M' L', K v M' L' → ∃ L'', (∀ w, Hp M' L' w → Hp M' L'' w) ∧ K' v M' L'') : Tr P f args M L K' := by
  exact ⟨h.1, fun w hw => (h.2 w hw).mono fun _ _ ⟨M', L', h1, h2⟩ => by
    obtain ⟨L'', h3, h4⟩ := hk _ _ _ h2
    exact ⟨M', L'', h3 _ h1, h4⟩⟩
def rowK (o : Option (Int × ByteArray)) (br most : Nat) (s : ByteArray) (G : Nat → Nat → HL) (M : Mem) (L : HL) (en : Ending) (M' : Mem) (L' : HL) : Prop :=
  M' = M ∧ match o with | some x => ∃ c b : Nat, x.1 = (c : Int) ∧ c ≤ most ∧ en = .returned (.int .i64 (c : Int)) ∧ L' = rcB br x.2 :: G c b | none => en = .panicked panS ∧ L' = rcB br s :: L
theorem rowK_ret {o : Option (Int × ByteArray)} {br most : Nat} {s : ByteArray} {G : Nat → Nat → HL} {M M' : Mem} {L L' : HL} {v : Value} (h : rowK o br most s G M L (.returned v) M' L') : ∃ (c b : Nat) (s' : ByteArray), o = some ((c : Int), s') ∧ c ≤ most ∧ v = .int .i64 (c : Int) ∧ M' = M ∧ L' = rcB br s' :: G c b := by
  obtain ⟨h1, h2⟩ := h
  cases o with
  | none => cases h2.1
  | some x =>
    obtain ⟨c, b, h3, h4, h5, h6⟩ := h2
    exact ⟨c, b, x.2, by rw [← h3], h4, (Ending.returned.injEq _ _).mp h5, h1, h6⟩
theorem rowK_pan {o : Option (Int × ByteArray)} {br most : Nat} {s : ByteArray} {G : Nat → Nat → HL} {M M' : Mem} {L L' : HL} {ch : List PanicEntry} (h : rowK o br most s G M L (.panicked ch) M' L') : o = none ∧ ch = panS ∧ M' = M ∧ L' = rcB br s :: L := by
  obtain ⟨h1, h2⟩ := h
  cases o with
  | some x => obtain ⟨_, _, _, _, h5, _⟩ := h2; cases h5
  | none => exact ⟨rfl, (Ending.panicked.injEq _ _).mp h2.1, h1, h2.2⟩
set_option maxRecDepth 10000 in
set_option maxHeartbeats 16000000 in
theorem rrows_ok (M : Mem) (L : HL) (ba br : Nat) (s : ByteArray) (n : Int) (most : Nat) (fid : Nat) (pcap : Value) (G : Nat → Nat → HL) (hm : most < 1000000) (hs : s.size < 4611686018427387904)
    (hf : ∀ (c : Nat) (N : HL), c ≤ most → Tr Try.prog fid [.int .i64 (c : Int), pcap] M (N ++ L) (fun v M' L' => v = .tuple ⟨[]⟩ ∧ M = M' ∧ ∃ b, L' = N ++ G c b)) :
    TrE Try.prog 63 [.agg ⟨fmC ba rT br⟩, .int .i64 n, .int .i64 (most : Int), .func (.func fid) ⟨[]⟩ ⟨[pcap]⟩] M (rcB br s :: L) (rowK (pN most s) br most s G M L) := by
  refine TrE.intro 26 Try.func63 rfl rfl Try.call63 rfl ?_
  intro C hC hro
  repeat (first | with_reducible (first | refine cS ?_ | refine cR ?_ | refine cN ?_ | refine cK ?_ | refine cB ?_ | refine cI ?_) | refine cE rfl ?_ | refine rq (qt_pev tok rfl) ?_ | refine rg rfl rfl (qt_pev tok rfl) ?_ | refine rq (ql tok rfl) ?_ | refine rg rfl rfl (ql tok rfl) ?_ | (refine runL_op0 (sst tok rfl rfl rfl rfl rfl) ?_; rintro _ _ _ ⟨rfl, rfl, rfl⟩) | ((first | refine ro (st_box rfl) ?_ | refine ro (st_alloc tok rfl) ?_ | refine ro (st_buildSlice tok rfl rfl rfl rfl rfl rfl rfl) ?_); rintro _ _ _ ⟨_, rfl, rfl, rfl⟩))
  rename_i b4 b5
  refine runL_rnumI (most := most) (cs := [.int .i64 n]) rfl rfl (p3 _ _ _ _) (fun v => [.int .i64 v]) (fun v => rfl) (by omega) hs rfl rfl rfl (fun hp => ?_) (fun v1 s1 hp1 => ?_)
  · rw [hp] at hC
    exact runX_pan hC (fun _ h => h.drop2.drop2) ⟨rfl, rfl, rfl⟩
  rw [hp1] at hC
  obtain ⟨v0, vm, _⟩ := pN_back hp1
  obtain ⟨c, rfl⟩ : ∃ c : Nat, v1 = c := ⟨v1.toNat, by omega⟩
  repeat (first | with_reducible (first | refine cS ?_ | refine cR ?_ | refine cN ?_ | refine cK ?_ | refine cB ?_ | refine cI ?_) | refine cE rfl ?_ | refine rq (qt_pev tok rfl) ?_ | refine rg rfl rfl (qt_pev tok rfl) ?_ | refine rq (ql tok rfl) ?_ | refine rg rfl rfl (ql tok rfl) ?_ | (refine runL_op0 (sst tok rfl rfl rfl rfl rfl) ?_; rintro _ _ _ ⟨rfl, rfl, rfl⟩) | ((first | refine ro (st_box rfl) ?_ | refine ro (st_alloc tok rfl) ?_ | refine ro (st_buildSlice tok rfl rfl rfl rfl rfl rfl rfl) ?_); rintro _ _ _ ⟨_, rfl, rfl, rfl⟩) | refine runL_q (qt_assertCk tok rfl rfl rfl) rfl rfl rfl ?_)
  refine run_cond rfl (fun _ => ?_) (fun h => by cases h)
  repeat (first | with_reducible (first | refine cS ?_ | refine cR ?_ | refine cN ?_ | refine cK ?_ | refine cB ?_ | refine cI ?_) | refine cE rfl ?_ | refine rq (qt_pev tok rfl) ?_ | refine rg rfl rfl (qt_pev tok rfl) ?_ | refine rq (ql tok rfl) ?_ | refine rg rfl rfl (ql tok rfl) ?_ | (refine runL_op0 (sst tok rfl rfl rfl rfl rfl) ?_; rintro _ _ _ ⟨rfl, rfl, rfl⟩) | ((first | refine ro (st_box rfl) ?_ | refine ro (st_alloc tok rfl) ?_ | refine ro (st_buildSlice tok rfl rfl rfl rfl rfl rfl rfl) ?_); rintro _ _ _ ⟨_, rfl, rfl, rfl⟩))
  refine runL_op (st_callV rfl rfl (fun _ => hf c [rcB br s1, obB b5 [.int .i64 (c : Int)] 3, obB b4 (fmC ba rT br) 78] (by omega))) rfl rfl rfl ?_
  rintro _ _ _ ⟨rfl, rfl, b, rfl⟩
  refine runL_nil ?_
  refine run_mem (L' := rcB br s1 :: obB b5 [.int .i64 (c : Int)] 3 :: obB b4 (fmC ba rT br) 78 :: G c b) (fun _ h => h) ?_
  repeat (first | with_reducible (first | refine cS ?_ | refine cR ?_ | refine cN ?_ | refine cK ?_ | refine cB ?_ | refine cI ?_) | refine cE rfl ?_ | refine rq (qt_pev tok rfl) ?_ | refine rg rfl rfl (qt_pev tok rfl) ?_ | refine rq (ql tok rfl) ?_ | refine rg rfl rfl (ql tok rfl) ?_ | (refine runL_op0 (sst tok rfl rfl rfl rfl rfl) ?_; rintro _ _ _ ⟨rfl, rfl, rfl⟩) | ((first | refine ro (st_box rfl) ?_ | refine ro (st_alloc tok rfl) ?_ | refine ro (st_buildSlice tok rfl rfl rfl rfl rfl rfl rfl) ?_); rintro _ _ _ ⟨_, rfl, rfl, rfl⟩))
  refine run_retX hro ?_
  exact runX_ret hC (rs := [.tmp 8]) rfl (resT rfl resN) (fun _ h => h.drop2.drop2) ⟨rfl, c, b, rfl, by omega, rfl, rfl⟩
def zMb : List Value := [.int .i64 0, .string ⟨#[]⟩]
def zSp : List Value := [.int .u8 0, .int .i64 0, .int .i64 0, .int .i64 0, .int .i64 0, .string ⟨#[]⟩, .slice none 0 0]
set_option maxRecDepth 10000 in
set_option maxHeartbeats 8000000 in
theorem gives1_b (M : Mem) (X : HL) (ba br bf : Nat) (a : Ax) (c : Nat) (hc : c < 1000000) :
    Tr Try.prog 64 [.int .i64 (c : Int), .pointer (some ⟨bf, 0, none⟩)] M (obB bf (fmC ba rT br) 78 :: axB ba a :: X) (fun v M' L' => v = .tuple ⟨[]⟩ ∧ M = M' ∧ ∃ b, L' = obB b ((List.replicate c zMb).flatten) 48 :: obB bf (fmC ba rT br) 78 :: axB ba { a with gives := ⟨some ⟨b, 0, none⟩, c, c, []⟩ } :: X) := by
  refine Tr.intro 9 Try.func64 rfl rfl Try.call64 rfl ?_
  intro C hC hro
  repeat (first | with_reducible (first | refine cS ?_ | refine cR ?_ | refine cN ?_ | refine cK ?_ | refine cB ?_ | refine cI ?_) | refine cE rfl ?_ | refine rq (qt_pev tok rfl) ?_ | refine rg rfl rfl (qt_pev tok rfl) ?_ | refine rq (ql tok rfl) ?_ | refine rg rfl rfl (ql tok rfl) ?_ | (refine runL_op0 (sst tok rfl rfl rfl rfl rfl) ?_; rintro _ _ _ ⟨rfl, rfl, rfl⟩) | ((first | refine ro (st_box rfl) ?_ | refine ro (st_alloc tok rfl) ?_ | refine ro (st_buildSlice tok rfl rfl rfl rfl rfl rfl rfl) ?_); rintro _ _ _ ⟨_, rfl, rfl, rfl⟩) | refine prn_start mixed ?_ | refine prn_end (by decide +kernel) ?_ | refine pq rfl (qt_pev tok rfl) ?_ | refine pg rfl rfl rfl (qt_pev tok rfl) ?_ | refine pq rfl (ql tok rfl) ?_ | refine pg rfl rfl rfl (ql tok rfl) ?_ | (refine prn_e0 rfl (sst tok rfl rfl rfl rfl rfl) (by decide +kernel) ?_; rintro _ _ _ ⟨rfl, rfl, rfl⟩) | ((first | refine pe rfl (st_box rfl) ?_ | refine pe rfl (st_alloc tok rfl) ?_ | refine pe rfl (st_buildSlice tok rfl rfl rfl rfl rfl rfl rfl) ?_); rintro _ _ _ ⟨_, rfl, rfl, rfl⟩) | (refine prn_o0 rfl (sst tok rfl rfl rfl rfl rfl) (by decide +kernel) ?_; rintro _ _ _ ⟨rfl, rfl, rfl⟩; refine ⟨by (repeat (first | exact trivial | refine And.intro (pend_q rfl rfl rfl (qt_pev tok rfl)) ?_ | refine And.intro (pend_q rfl rfl rfl (ql tok rfl)) ?_)), ?_⟩) | ((first | refine po rfl (st_box rfl) ?_ | refine po rfl (st_alloc tok rfl) ?_ | refine po rfl (st_buildSlice tok rfl rfl rfl rfl rfl rfl rfl) ?_); rintro _ _ _ ⟨_, rfl, rfl, rfl⟩; refine ⟨by (repeat (first | exact trivial | refine And.intro (pend_q rfl rfl rfl (qt_pev tok rfl)) ?_ | refine And.intro (pend_q rfl rfl rfl (ql tok rfl)) ?_)), ?_⟩) | (refine pe rfl (qt_pev tok rfl) ?_; rintro _ _ _ ⟨rfl, rfl, rfl⟩))
  refine prn_o1 rfl (st_makeSliceG tok c rfl rfl rfl (zc := zMb) rfl rfl rfl rfl rfl (by omega) (by omega)) (by decide +kernel) rfl rfl rfl ?_
  rintro _ _ _ ⟨b, rfl, rfl, rfl⟩
  refine ⟨by (repeat (first | exact trivial | refine And.intro (pend_q rfl rfl rfl (qt_pev tok rfl)) ?_ | refine And.intro (pend_q rfl rfl rfl (ql tok rfl)) ?_)), ?_⟩
  repeat (first | with_reducible (first | refine cS ?_ | refine cR ?_ | refine cN ?_ | refine cK ?_ | refine cB ?_ | refine cI ?_) | refine cE rfl ?_ | refine rq (qt_pev tok rfl) ?_ | refine rg rfl rfl (qt_pev tok rfl) ?_ | refine rq (ql tok rfl) ?_ | refine rg rfl rfl (ql tok rfl) ?_ | (refine runL_op0 (sst tok rfl rfl rfl rfl rfl) ?_; rintro _ _ _ ⟨rfl, rfl, rfl⟩) | ((first | refine ro (st_box rfl) ?_ | refine ro (st_alloc tok rfl) ?_ | refine ro (st_buildSlice tok rfl rfl rfl rfl rfl rfl rfl) ?_); rintro _ _ _ ⟨_, rfl, rfl, rfl⟩) | refine prn_start mixed ?_ | refine prn_end (by decide +kernel) ?_ | refine pq rfl (qt_pev tok rfl) ?_ | refine pg rfl rfl rfl (qt_pev tok rfl) ?_ | refine pq rfl (ql tok rfl) ?_ | refine pg rfl rfl rfl (ql tok rfl) ?_ | (refine prn_e0 rfl (sst tok rfl rfl rfl rfl rfl) (by decide +kernel) ?_; rintro _ _ _ ⟨rfl, rfl, rfl⟩) | ((first | refine pe rfl (st_box rfl) ?_ | refine pe rfl (st_alloc tok rfl) ?_ | refine pe rfl (st_buildSlice tok rfl rfl rfl rfl rfl rfl rfl) ?_); rintro _ _ _ ⟨_, rfl, rfl, rfl⟩) | (refine prn_o0 rfl (sst tok rfl rfl rfl rfl rfl) (by decide +kernel) ?_; rintro _ _ _ ⟨rfl, rfl, rfl⟩; refine ⟨by (repeat (first | exact trivial | refine And.intro (pend_q rfl rfl rfl (qt_pev tok rfl)) ?_ | refine And.intro (pend_q rfl rfl rfl (ql tok rfl)) ?_)), ?_⟩) | ((first | refine po rfl (st_box rfl) ?_ | refine po rfl (st_alloc tok rfl) ?_ | refine po rfl (st_buildSlice tok rfl rfl rfl rfl rfl rfl rfl) ?_); rintro _ _ _ ⟨_, rfl, rfl, rfl⟩; refine ⟨by (repeat (first | exact trivial | refine And.intro (pend_q rfl rfl rfl (qt_pev tok rfl)) ?_ | refine And.intro (pend_q rfl rfl rfl (ql tok rfl)) ?_)), ?_⟩) | (refine pe rfl (qt_pev tok rfl) ?_; rintro _ _ _ ⟨rfl, rfl, rfl⟩))
  exact run_end hC (rs := []) rfl resN (fun _ h => h) ⟨rfl, rfl, b, rfl⟩
set_option maxRecDepth 10000 in
set_option maxHeartbeats 8000000 in
theorem steps1_b (M : Mem) (X : HL) (ba br bf : Nat) (a : Ax) (c : Nat) (hc : c < 1000000) :
    Tr Try.prog 65 [.int .i64 (c : Int), .pointer (some ⟨bf, 0, none⟩)] M (obB bf (fmC ba rT br) 78 :: axB ba a :: X) (fun v M' L' => v = .tuple ⟨[]⟩ ∧ M = M' ∧ ∃ b, L' = obB b ((List.replicate c zSp).flatten) 51 :: obB bf (fmC ba rT br) 78 :: axB ba { a with steps := ⟨some ⟨b, 0, none⟩, c, c, []⟩ } :: X) := by
  refine Tr.intro 9 Try.func65 rfl rfl Try.call65 rfl ?_
  intro C hC hro
  repeat (first | with_reducible (first | refine cS ?_ | refine cR ?_ | refine cN ?_ | refine cK ?_ | refine cB ?_ | refine cI ?_) | refine cE rfl ?_ | refine rq (qt_pev tok rfl) ?_ | refine rg rfl rfl (qt_pev tok rfl) ?_ | refine rq (ql tok rfl) ?_ | refine rg rfl rfl (ql tok rfl) ?_ | (refine runL_op0 (sst tok rfl rfl rfl rfl rfl) ?_; rintro _ _ _ ⟨rfl, rfl, rfl⟩) | ((first | refine ro (st_box rfl) ?_ | refine ro (st_alloc tok rfl) ?_ | refine ro (st_buildSlice tok rfl rfl rfl rfl rfl rfl rfl) ?_); rintro _ _ _ ⟨_, rfl, rfl, rfl⟩) | refine prn_start mixed ?_ | refine prn_end (by decide +kernel) ?_ | refine pq rfl (qt_pev tok rfl) ?_ | refine pg rfl rfl rfl (qt_pev tok rfl) ?_ | refine pq rfl (ql tok rfl) ?_ | refine pg rfl rfl rfl (ql tok rfl) ?_ | (refine prn_e0 rfl (sst tok rfl rfl rfl rfl rfl) (by decide +kernel) ?_; rintro _ _ _ ⟨rfl, rfl, rfl⟩) | ((first | refine pe rfl (st_box rfl) ?_ | refine pe rfl (st_alloc tok rfl) ?_ | refine pe rfl (st_buildSlice tok rfl rfl rfl rfl rfl rfl rfl) ?_); rintro _ _ _ ⟨_, rfl, rfl, rfl⟩) | (refine prn_o0 rfl (sst tok rfl rfl rfl rfl rfl) (by decide +kernel) ?_; rintro _ _ _ ⟨rfl, rfl, rfl⟩; refine ⟨by (repeat (first | exact trivial | refine And.intro (pend_q rfl rfl rfl (qt_pev tok rfl)) ?_ | refine And.intro (pend_q rfl rfl rfl (ql tok rfl)) ?_)), ?_⟩) | ((first | refine po rfl (st_box rfl) ?_ | refine po rfl (st_alloc tok rfl) ?_ | refine po rfl (st_buildSlice tok rfl rfl rfl rfl rfl rfl rfl) ?_); rintro _ _ _ ⟨_, rfl, rfl, rfl⟩; refine ⟨by (repeat (first | exact trivial | refine And.intro (pend_q rfl rfl rfl (qt_pev tok rfl)) ?_ | refine And.intro (pend_q rfl rfl rfl (ql tok rfl)) ?_)), ?_⟩) | (refine pe rfl (qt_pev tok rfl) ?_; rintro _ _ _ ⟨rfl, rfl, rfl⟩))
  refine prn_o1 rfl (st_makeSliceG tok c rfl rfl rfl (zc := zSp) rfl rfl rfl rfl rfl (by omega) (by omega)) (by decide +kernel) rfl rfl rfl ?_
  rintro _ _ _ ⟨b, rfl, rfl, rfl⟩
  refine ⟨by (repeat (first | exact trivial | refine And.intro (pend_q rfl rfl rfl (qt_pev tok rfl)) ?_ | refine And.intro (pend_q rfl rfl rfl (ql tok rfl)) ?_)), ?_⟩
  repeat (first | with_reducible (first | refine cS ?_ | refine cR ?_ | refine cN ?_ | refine cK ?_ | refine cB ?_ | refine cI ?_) | refine cE rfl ?_ | refine rq (qt_pev tok rfl) ?_ | refine rg rfl rfl (qt_pev tok rfl) ?_ | refine rq (ql tok rfl) ?_ | refine rg rfl rfl (ql tok rfl) ?_ | (refine runL_op0 (sst tok rfl rfl rfl rfl rfl) ?_; rintro _ _ _ ⟨rfl, rfl, rfl⟩) | ((first | refine ro (st_box rfl) ?_ | refine ro (st_alloc tok rfl) ?_ | refine ro (st_buildSlice tok rfl rfl rfl rfl rfl rfl rfl) ?_); rintro _ _ _ ⟨_, rfl, rfl, rfl⟩) | refine prn_start mixed ?_ | refine prn_end (by decide +kernel) ?_ | refine pq rfl (qt_pev tok rfl) ?_ | refine pg rfl rfl rfl (qt_pev tok rfl) ?_ | refine pq rfl (ql tok rfl) ?_ | refine pg rfl rfl rfl (ql tok rfl) ?_ | (refine prn_e0 rfl (sst tok rfl rfl rfl rfl rfl) (by decide +kernel) ?_; rintro _ _ _ ⟨rfl, rfl, rfl⟩) | ((first | refine pe rfl (st_box rfl) ?_ | refine pe rfl (st_alloc tok rfl) ?_ | refine pe rfl (st_buildSlice tok rfl rfl rfl rfl rfl rfl rfl) ?_); rintro _ _ _ ⟨_, rfl, rfl, rfl⟩) | (refine prn_o0 rfl (sst tok rfl rfl rfl rfl rfl) (by decide +kernel) ?_; rintro _ _ _ ⟨rfl, rfl, rfl⟩; refine ⟨by (repeat (first | exact trivial | refine And.intro (pend_q rfl rfl rfl (qt_pev tok rfl)) ?_ | refine And.intro (pend_q rfl rfl rfl (ql tok rfl)) ?_)), ?_⟩) | ((first | refine po rfl (st_box rfl) ?_ | refine po rfl (st_alloc tok rfl) ?_ | refine po rfl (st_buildSlice tok rfl rfl rfl rfl rfl rfl rfl) ?_); rintro _ _ _ ⟨_, rfl, rfl, rfl⟩; refine ⟨by (repeat (first | exact trivial | refine And.intro (pend_q rfl rfl rfl (qt_pev tok rfl)) ?_ | refine And.intro (pend_q rfl rfl rfl (ql tok rfl)) ?_)), ?_⟩) | (refine pe rfl (qt_pev tok rfl) ?_; rintro _ _ _ ⟨rfl, rfl, rfl⟩))
  exact run_end hC (rs := []) rfl resN (fun _ h => h) ⟨rfl, rfl, b, rfl⟩
end Go.Proofs.Ytbpgiodfccijmaa
namespace Go.Proofs.Ytbpgiodfccijmaa
open Go.Chi

/-! ### gives and steps, reading -/
theorem flat_len {α : Type} (f : α → List Value) (w : Nat) (hf : ∀ x, (f x).length = w) : ∀ l : List α, ((l.map f).flatten).length = l.length * w
  | [] => by simp
  | x :: l => by rw [List.map_cons, List.flatten_cons, List.length_append, hf, flat_len f w hf l, List.length_cons, Nat.succ_mul]; omega
/-- rows that are read one after the other: those read, then those to come -/
def rwC {α : Type} (f : α → List Value) (z : List Value) (xs : List α) (r : Nat) : List Value := (xs.map f).flatten ++ (List.replicate r z).flatten
theorem rwC_succ {α : Type} (f : α → List Value) (z : List Value) (xs : List α) (r : Nat) : rwC f z xs (r + 1) = (xs.map f).flatten ++ (z ++ (List.replicate r z).flatten) := by
  rw [rwC, List.replicate_succ, List.flatten_cons]
theorem rwC_snoc {α : Type} (f : α → List Value) (z : List Value) (xs : List α) (r : Nat) (x : α) : rwC f z (xs ++ [x]) r = (xs.map f).flatten ++ (f x ++ (List.replicate r z).flatten) := by
  rw [rwC]; simp
theorem rwC_set {α : Type} {f : α → List Value} {w : Nat} (hf : ∀ x, (f x).length = w) (xs : List α) {x x' post vs : List Value} {j k : Nat} (hj : xs.length = j) (h : setE x k vs = some x') : setE ((xs.map f).flatten ++ (x ++ post)) (0 + j * w + k) vs = some ((xs.map f).flatten ++ (x' ++ post)) := by
  have h1 := setE_mid (pre := (xs.map f).flatten) (post := post) h
  rw [flat_len f w hf, hj] at h1
  rwa [Nat.zero_add]
theorem mbC_len (x : Mb) : (mbC x).length = 2 := rfl
theorem mb_all (xs : List Mb) : ∀ l ∈ xs.map mbC, l.length = 2 := by intro l hl; obtain ⟨p, _, rfl⟩ := List.mem_map.1 hl; rfl
theorem pmid2 (N L : HL) (x y : Nat × Obj) : (N ++ x :: y :: L).Perm (x :: y :: (N ++ L)) := List.perm_middle.trans (List.Perm.cons _ List.perm_middle)
theorem pmid3 (N L : HL) (x y z : Nat × Obj) : (N ++ x :: y :: z :: L).Perm (x :: y :: z :: (N ++ L)) := List.perm_middle.trans (List.Perm.cons _ (pmid2 N L y z))
theorem frz1of {M : Mem} {L : HL} {w : World} {b : Nat} {o : Obj} (h : Hp M ((b, o) :: L) w) : ∃ M', M.le M' ∧ M'.blk b = some o ∧ Hp M' L w := Hp.freeze1 h
set_option maxRecDepth 10000 in
set_option maxHeartbeats 16000000 in
theorem rgivesF_ok (M : Mem) (L : HL) (ba br : Nat) (s : ByteArray) (a : Ax) (hs : s.size < 4611686018427387904) (hq : AxW M a) :
    TrE Try.prog 48 [.agg ⟨fmC ba rT br⟩] M (rcB br s :: axB ba a :: L) (rgK (sGiv a.aa s) br ba M L) := by
  refine TrE.intro 42 Try.func48 rfl rfl Try.call48 rfl ?_
  intro C hC hro
  repeat (first | with_reducible (first | refine cS ?_ | refine cR ?_ | refine cN ?_ | refine cK ?_ | refine cB ?_ | refine cI ?_) | refine cE rfl ?_ | refine rq (qt_pev tok rfl) ?_ | refine rg rfl rfl (qt_pev tok rfl) ?_ | refine rq (ql tok rfl) ?_ | refine rg rfl rfl (ql tok rfl) ?_ | (refine runL_op0 (sst tok rfl rfl rfl rfl rfl) ?_; rintro _ _ _ ⟨rfl, rfl, rfl⟩) | ((first | refine ro (st_box rfl) ?_ | refine ro (st_alloc tok rfl) ?_ | refine ro (st_buildSlice tok rfl rfl rfl rfl rfl rfl rfl) ?_); rintro _ _ _ ⟨_, rfl, rfl, rfl⟩) | refine prn_start mixed ?_ | refine prn_end (by decide +kernel) ?_ | refine pq rfl (qt_pev tok rfl) ?_ | refine pg rfl rfl rfl (qt_pev tok rfl) ?_ | refine pq rfl (ql tok rfl) ?_ | refine pg rfl rfl rfl (ql tok rfl) ?_ | (refine prn_e0 rfl (sst tok rfl rfl rfl rfl rfl) (by decide +kernel) ?_; rintro _ _ _ ⟨rfl, rfl, rfl⟩) | ((first | refine pe rfl (st_box rfl) ?_ | refine pe rfl (st_alloc tok rfl) ?_ | refine pe rfl (st_buildSlice tok rfl rfl rfl rfl rfl rfl rfl) ?_); rintro _ _ _ ⟨_, rfl, rfl, rfl⟩) | (refine prn_o0 rfl (sst tok rfl rfl rfl rfl rfl) (by decide +kernel) ?_; rintro _ _ _ ⟨rfl, rfl, rfl⟩; refine ⟨by (repeat (first | exact trivial | refine And.intro (pend_q rfl rfl rfl (qt_pev tok rfl)) ?_ | refine And.intro (pend_q rfl rfl rfl (ql tok rfl)) ?_)), ?_⟩) | ((first | refine po rfl (st_box rfl) ?_ | refine po rfl (st_alloc tok rfl) ?_ | refine po rfl (st_buildSlice tok rfl rfl rfl rfl rfl rfl rfl) ?_); rintro _ _ _ ⟨_, rfl, rfl, rfl⟩; refine ⟨by (repeat (first | exact trivial | refine And.intro (pend_q rfl rfl rfl (qt_pev tok rfl)) ?_ | refine And.intro (pend_q rfl rfl rfl (ql tok rfl)) ?_)), ?_⟩) | (refine pe rfl (qt_pev tok rfl) ?_; rintro _ _ _ ⟨rfl, rfl, rfl⟩))
  rename_i bf
  refine pr_q 9 (by decide +kernel) rfl (qt_pev tok rfl) rfl rfl rfl ?_
  refine pr_callE 8 (by decide +kernel) rfl rfl (trEPerm (List.Perm.swap _ _ _) (rrows_ok M (obB bf (fmC ba rT br) 78 :: axB ba a :: L) ba br s a.gives.len 6 64 (.pointer (some ⟨bf, 0, none⟩)) (fun c b => obB b ((List.replicate c zMb).flatten) 48 :: obB bf (fmC ba rT br) 78 :: axB ba { a with gives := ⟨some ⟨b, 0, none⟩, c, c, []⟩ } :: L) (by decide) hs ?_)) rfl rfl rfl ?_ ?_
  · intro c N hc
    refine trCons (trPerm (L' := obB bf (fmC ba rT br) 78 :: axB ba a :: (N ++ L)) ?_ (gives1_b M (N ++ L) ba br bf a c (by omega))) ?_
    · exact pmid2 _ _ _ _
    · rintro v M' _ ⟨rfl, rfl, b, rfl⟩
      exact ⟨_, fun w h => h.perm (pmid3 _ _ _ _ _).symm, rfl, rfl, b, rfl⟩
  · intro v M1 _ h
    obtain ⟨c, b, s1, hp1, hc, rfl, rfl, rfl⟩ := rowK_ret h
    have z1 := pN_sz hp1
    have hg : sGiv a.aa s = (pGs c s1).bind fun x => some ({ a.aa with gives := x.1 }, x.2) := by
      rw [sGiv, pGives, hp1, Option.bind_some, Int.toNat_natCast]
    rw [hg] at hC
    refine ⟨by (repeat (first | exact trivial | refine And.intro (pend_q rfl rfl rfl (qt_pev tok rfl)) ?_ | refine And.intro (pend_q rfl rfl rfl (ql tok rfl)) ?_)), ?_⟩
    refine pr_end (by decide +kernel) (by decide +kernel) ?_
    repeat (first | with_reducible (first | refine cS ?_ | refine cR ?_ | refine cN ?_ | refine cK ?_ | refine cB ?_ | refine cI ?_) | refine cE rfl ?_ | refine rq (qt_pev tok rfl) ?_ | refine rg rfl rfl (qt_pev tok rfl) ?_ | refine rq (ql tok rfl) ?_ | refine rg rfl rfl (ql tok rfl) ?_ | (refine runL_op0 (sst tok rfl rfl rfl rfl rfl) ?_; rintro _ _ _ ⟨rfl, rfl, rfl⟩) | ((first | refine ro (st_box rfl) ?_ | refine ro (st_alloc tok rfl) ?_ | refine ro (st_buildSlice tok rfl rfl rfl rfl rfl rfl rfl) ?_); rintro _ _ _ ⟨_, rfl, rfl, rfl⟩))
    generalize ha' : ({ a with gives := ⟨some ⟨b, 0, none⟩, c, c, []⟩ } : Ax) = a'
    have hv : a'.gives.v = .slice (some ⟨b, 0, none⟩) c c := by rw [← ha']; rfl
    refine run_loopN (fun j σ1 M2 L1 => j ≤ c ∧ M1 = M2 ∧ ∃ (xs : List Mb) (sj : ByteArray), xs.length = j ∧ (pGs c s1 = (pGs (c - j) sj).bind fun z => some (xs ++ z.1, z.2)) ∧ sj.size ≤ s.size ∧ (∀ m ∈ xs, m.digest.size ≤ 16384) ∧ L1 = rcB br sj :: obB b (rwC mbC zMb xs (c - j)) 48 :: obB bf (fmC ba rT br) 78 :: axB ba a' :: L ∧ σ1 = [(12, .int .i64 (j : Int)), (11, .int .i64 (c : Int)), (1, .pointer (some ⟨bf, 0, none⟩))]) c [(12, .int .i64 ((0 : Nat) : Int)), (11, .int .i64 (c : Int)), (1, .pointer (some ⟨bf, 0, none⟩))] ?_ ⟨Nat.zero_le _, rfl, [], s1, rfl, by rw [Nat.sub_zero]; cases pGs c s1 <;> rfl, z1, (fun m hm => by cases hm), rfl, rfl⟩ (fun j _ _ _ h => h.1) ?_
    · exact ⟨rfl, rfl, rfl, trivial⟩
    rintro j _ _ _ ⟨hj, rfl, xs, sj, hxl, hpj, hsj, hd, rfl, rfl⟩ hnext
    repeat (first | with_reducible (first | refine cS ?_ | refine cR ?_ | refine cN ?_ | refine cK ?_ | refine cB ?_ | refine cI ?_) | refine cE rfl ?_ | refine rq (qt_pev tok rfl) ?_ | refine rg rfl rfl (qt_pev tok rfl) ?_ | refine rq (ql tok rfl) ?_ | refine rg rfl rfl (ql tok rfl) ?_ | (refine runL_op0 (sst tok rfl rfl rfl rfl rfl) ?_; rintro _ _ _ ⟨rfl, rfl, rfl⟩) | ((first | refine ro (st_box rfl) ?_ | refine ro (st_alloc tok rfl) ?_ | refine ro (st_buildSlice tok rfl rfl rfl rfl rfl rfl rfl) ?_); rintro _ _ _ ⟨_, rfl, rfl, rfl⟩))
    refine run_cond rfl (fun h => ?_) (fun h => ?_)
    · have hlt : j < c := by simpa using h
      have hc1 : c - j = (c - (j + 1)) + 1 := by omega
      rw [hc1, pGs] at hpj
      rw [hc1, rwC_succ]
      repeat (first | with_reducible (first | refine cS ?_ | refine cR ?_ | refine cN ?_ | refine cK ?_ | refine cB ?_ | refine cI ?_) | refine cE rfl ?_ | refine rq (qt_pev tok rfl) ?_ | refine rg rfl rfl (qt_pev tok rfl) ?_ | refine rq (ql tok rfl) ?_ | refine rg rfl rfl (ql tok rfl) ?_ | (refine runL_op0 (sst tok rfl rfl rfl rfl rfl) ?_; rintro _ _ _ ⟨rfl, rfl, rfl⟩) | ((first | refine ro (st_box rfl) ?_ | refine ro (st_alloc tok rfl) ?_ | refine ro (st_buildSlice tok rfl rfl rfl rfl rfl rfl rfl) ?_); rintro _ _ _ ⟨_, rfl, rfl, rfl⟩))
      repeat (first | with_reducible (first | refine cS ?_ | refine cR ?_ | refine cN ?_ | refine cK ?_ | refine cB ?_ | refine cI ?_) | refine cE rfl ?_ | refine rq (qt_pev tok rfl) ?_ | refine rg rfl rfl (qt_pev tok rfl) ?_ | refine rq (ql tok rfl) ?_ | refine rg rfl rfl (ql tok rfl) ?_ | (refine runL_op0 (sst tok rfl rfl rfl rfl rfl) ?_; rintro _ _ _ ⟨rfl, rfl, rfl⟩) | ((first | refine ro (st_box rfl) ?_ | refine ro (st_alloc tok rfl) ?_ | refine ro (st_buildSlice tok rfl rfl rfl rfl rfl rfl rfl) ?_); rintro _ _ _ ⟨_, rfl, rfl, rfl⟩) | refine prn_start mixed ?_ | refine prn_end (by decide +kernel) ?_ | refine pq rfl (qt_pev tok rfl) ?_ | refine pg rfl rfl rfl (qt_pev tok rfl) ?_ | refine pq rfl (ql tok rfl) ?_ | refine pg rfl rfl rfl (ql tok rfl) ?_ | (refine prn_e0 rfl (sst tok rfl rfl rfl rfl rfl) (by decide +kernel) ?_; rintro _ _ _ ⟨rfl, rfl, rfl⟩) | ((first | refine pe rfl (st_box rfl) ?_ | refine pe rfl (st_alloc tok rfl) ?_ | refine pe rfl (st_buildSlice tok rfl rfl rfl rfl rfl rfl rfl) ?_); rintro _ _ _ ⟨_, rfl, rfl, rfl⟩) | (refine prn_o0 rfl (sst tok rfl rfl rfl rfl rfl) (by decide +kernel) ?_; rintro _ _ _ ⟨rfl, rfl, rfl⟩; refine ⟨by (repeat (first | exact trivial | refine And.intro (pend_q rfl rfl rfl (qt_pev tok rfl)) ?_ | refine And.intro (pend_q rfl rfl rfl (ql tok rfl)) ?_)), ?_⟩) | ((first | refine po rfl (st_box rfl) ?_ | refine po rfl (st_alloc tok rfl) ?_ | refine po rfl (st_buildSlice tok rfl rfl rfl rfl rfl rfl rfl) ?_); rintro _ _ _ ⟨_, rfl, rfl, rfl⟩; refine ⟨by (repeat (first | exact trivial | refine And.intro (pend_q rfl rfl rfl (qt_pev tok rfl)) ?_ | refine And.intro (pend_q rfl rfl rfl (ql tok rfl)) ?_)), ?_⟩) | (refine pe rfl (qt_pev tok rfl) ?_; rintro _ _ _ ⟨rfl, rfl, rfl⟩))
      refine pr_as 21 (.slice (some ⟨b, 0, none⟩) c c) rfl hv ?_
      repeat (first | with_reducible (first | refine cS ?_ | refine cR ?_ | refine cN ?_ | refine cK ?_ | refine cB ?_ | refine cI ?_) | refine cE rfl ?_ | refine rq (qt_pev tok rfl) ?_ | refine rg rfl rfl (qt_pev tok rfl) ?_ | refine rq (ql tok rfl) ?_ | refine rg rfl rfl (ql tok rfl) ?_ | (refine runL_op0 (sst tok rfl rfl rfl rfl rfl) ?_; rintro _ _ _ ⟨rfl, rfl, rfl⟩) | ((first | refine ro (st_box rfl) ?_ | refine ro (st_alloc tok rfl) ?_ | refine ro (st_buildSlice tok rfl rfl rfl rfl rfl rfl rfl) ?_); rintro _ _ _ ⟨_, rfl, rfl, rfl⟩) | refine prn_start mixed ?_ | refine prn_end (by decide +kernel) ?_ | refine pq rfl (qt_pev tok rfl) ?_ | refine pg rfl rfl rfl (qt_pev tok rfl) ?_ | refine pq rfl (ql tok rfl) ?_ | refine pg rfl rfl rfl (ql tok rfl) ?_ | (refine prn_e0 rfl (sst tok rfl rfl rfl rfl rfl) (by decide +kernel) ?_; rintro _ _ _ ⟨rfl, rfl, rfl⟩) | ((first | refine pe rfl (st_box rfl) ?_ | refine pe rfl (st_alloc tok rfl) ?_ | refine pe rfl (st_buildSlice tok rfl rfl rfl rfl rfl rfl rfl) ?_); rintro _ _ _ ⟨_, rfl, rfl, rfl⟩) | (refine prn_o0 rfl (sst tok rfl rfl rfl rfl rfl) (by decide +kernel) ?_; rintro _ _ _ ⟨rfl, rfl, rfl⟩; refine ⟨by (repeat (first | exact trivial | refine And.intro (pend_q rfl rfl rfl (qt_pev tok rfl)) ?_ | refine And.intro (pend_q rfl rfl rfl (ql tok rfl)) ?_)), ?_⟩) | ((first | refine po rfl (st_box rfl) ?_ | refine po rfl (st_alloc tok rfl) ?_ | refine po rfl (st_buildSlice tok rfl rfl rfl rfl rfl rfl rfl) ?_); rintro _ _ _ ⟨_, rfl, rfl, rfl⟩; refine ⟨by (repeat (first | exact trivial | refine And.intro (pend_q rfl rfl rfl (qt_pev tok rfl)) ?_ | refine And.intro (pend_q rfl rfl rfl (ql tok rfl)) ?_)), ?_⟩) | (refine pe rfl (qt_pev tok rfl) ?_; rintro _ _ _ ⟨rfl, rfl, rfl⟩) | refine prn_q rfl (qt_indexN tok rfl rfl rfl rfl (fun _ => by omega)) (by decide +kernel) rfl rfl rfl ?_ | refine prn_q rfl (qt_nilIface rfl) (by decide +kernel) rfl rfl rfl ?_)
      refine prn_rnumI (most := 7) (cs := (xs.map mbC).flatten ++ (zMb ++ (List.replicate (c - (j + 1)) zMb).flatten)) rfl (by decide +kernel) rfl rfl (List.Perm.refl _) (fun v => (xs.map mbC).flatten ++ ([.int .i64 v, .string ⟨#[]⟩] ++ (List.replicate (c - (j + 1)) zMb).flatten)) (fun v => rwC_set mbC_len xs hxl rfl) (by decide) (by omega) rfl rfl rfl (fun hp => ?_) (fun v2 s2 hp2 => ?_)
      · rw [hpj, hp] at hC
        exact runX_pan hC (fun _ h => h.drop.drop.drop) (rgK_none a' (Mem.le_refl _))
      have z2 := pN_sz hp2
      rw [hp2, Option.bind_some] at hpj
      refine ⟨by (repeat (first | exact trivial | refine And.intro (pend_q rfl rfl rfl (qt_pev tok rfl)) ?_ | refine And.intro (pend_q rfl rfl rfl (ql tok rfl)) ?_)), ?_⟩
      repeat (first | with_reducible (first | refine cS ?_ | refine cR ?_ | refine cN ?_ | refine cK ?_ | refine cB ?_ | refine cI ?_) | refine cE rfl ?_ | refine rq (qt_pev tok rfl) ?_ | refine rg rfl rfl (qt_pev tok rfl) ?_ | refine rq (ql tok rfl) ?_ | refine rg rfl rfl (ql tok rfl) ?_ | (refine runL_op0 (sst tok rfl rfl rfl rfl rfl) ?_; rintro _ _ _ ⟨rfl, rfl, rfl⟩) | ((first | refine ro (st_box rfl) ?_ | refine ro (st_alloc tok rfl) ?_ | refine ro (st_buildSlice tok rfl rfl rfl rfl rfl rfl rfl) ?_); rintro _ _ _ ⟨_, rfl, rfl, rfl⟩) | refine prn_start mixed ?_ | refine prn_end (by decide +kernel) ?_ | refine pq rfl (qt_pev tok rfl) ?_ | refine pg rfl rfl rfl (qt_pev tok rfl) ?_ | refine pq rfl (ql tok rfl) ?_ | refine pg rfl rfl rfl (ql tok rfl) ?_ | (refine prn_e0 rfl (sst tok rfl rfl rfl rfl rfl) (by decide +kernel) ?_; rintro _ _ _ ⟨rfl, rfl, rfl⟩) | ((first | refine pe rfl (st_box rfl) ?_ | refine pe rfl (st_alloc tok rfl) ?_ | refine pe rfl (st_buildSlice tok rfl rfl rfl rfl rfl rfl rfl) ?_); rintro _ _ _ ⟨_, rfl, rfl, rfl⟩) | (refine prn_o0 rfl (sst tok rfl rfl rfl rfl rfl) (by decide +kernel) ?_; rintro _ _ _ ⟨rfl, rfl, rfl⟩; refine ⟨by (repeat (first | exact trivial | refine And.intro (pend_q rfl rfl rfl (qt_pev tok rfl)) ?_ | refine And.intro (pend_q rfl rfl rfl (ql tok rfl)) ?_)), ?_⟩) | ((first | refine po rfl (st_box rfl) ?_ | refine po rfl (st_alloc tok rfl) ?_ | refine po rfl (st_buildSlice tok rfl rfl rfl rfl rfl rfl rfl) ?_); rintro _ _ _ ⟨_, rfl, rfl, rfl⟩; refine ⟨by (repeat (first | exact trivial | refine And.intro (pend_q rfl rfl rfl (qt_pev tok rfl)) ?_ | refine And.intro (pend_q rfl rfl rfl (ql tok rfl)) ?_)), ?_⟩) | (refine pe rfl (qt_pev tok rfl) ?_; rintro _ _ _ ⟨rfl, rfl, rfl⟩))
      refine pr_as 34 (.slice (some ⟨b, 0, none⟩) c c) rfl hv ?_
      repeat (first | with_reducible (first | refine cS ?_ | refine cR ?_ | refine cN ?_ | refine cK ?_ | refine cB ?_ | refine cI ?_) | refine cE rfl ?_ | refine rq (qt_pev tok rfl) ?_ | refine rg rfl rfl (qt_pev tok rfl) ?_ | refine rq (ql tok rfl) ?_ | refine rg rfl rfl (ql tok rfl) ?_ | (refine runL_op0 (sst tok rfl rfl rfl rfl rfl) ?_; rintro _ _ _ ⟨rfl, rfl, rfl⟩) | ((first | refine ro (st_box rfl) ?_ | refine ro (st_alloc tok rfl) ?_ | refine ro (st_buildSlice tok rfl rfl rfl rfl rfl rfl rfl) ?_); rintro _ _ _ ⟨_, rfl, rfl, rfl⟩) | refine prn_start mixed ?_ | refine prn_end (by decide +kernel) ?_ | refine pq rfl (qt_pev tok rfl) ?_ | refine pg rfl rfl rfl (qt_pev tok rfl) ?_ | refine pq rfl (ql tok rfl) ?_ | refine pg rfl rfl rfl (ql tok rfl) ?_ | (refine prn_e0 rfl (sst tok rfl rfl rfl rfl rfl) (by decide +kernel) ?_; rintro _ _ _ ⟨rfl, rfl, rfl⟩) | ((first | refine pe rfl (st_box rfl) ?_ | refine pe rfl (st_alloc tok rfl) ?_ | refine pe rfl (st_buildSlice tok rfl rfl rfl rfl rfl rfl rfl) ?_); rintro _ _ _ ⟨_, rfl, rfl, rfl⟩) | (refine prn_o0 rfl (sst tok rfl rfl rfl rfl rfl) (by decide +kernel) ?_; rintro _ _ _ ⟨rfl, rfl, rfl⟩; refine ⟨by (repeat (first | exact trivial | refine And.intro (pend_q rfl rfl rfl (qt_pev tok rfl)) ?_ | refine And.intro (pend_q rfl rfl rfl (ql tok rfl)) ?_)), ?_⟩) | ((first | refine po rfl (st_box rfl) ?_ | refine po rfl (st_alloc tok rfl) ?_ | refine po rfl (st_buildSlice tok rfl rfl rfl rfl rfl rfl rfl) ?_); rintro _ _ _ ⟨_, rfl, rfl, rfl⟩; refine ⟨by (repeat (first | exact trivial | refine And.intro (pend_q rfl rfl rfl (qt_pev tok rfl)) ?_ | refine And.intro (pend_q rfl rfl rfl (ql tok rfl)) ?_)), ?_⟩) | (refine pe rfl (qt_pev tok rfl) ?_; rintro _ _ _ ⟨rfl, rfl, rfl⟩) | refine prn_q rfl (qt_indexN tok rfl rfl rfl rfl (fun _ => by omega)) (by decide +kernel) rfl rfl rfl ?_ | refine prn_q rfl (qt_nilIface rfl) (by decide +kernel) rfl rfl rfl ?_)
      refine prn_rtextI (most := 16384) (cs := (xs.map mbC).flatten ++ ([.int .i64 v2, .string ⟨#[]⟩] ++ (List.replicate (c - (j + 1)) zMb).flatten)) rfl (by decide +kernel) rfl rfl (List.Perm.refl _) (fun v => (xs.map mbC).flatten ++ (mbC ⟨v2, v⟩ ++ (List.replicate (c - (j + 1)) zMb).flatten)) (fun v => rwC_set mbC_len xs hxl rfl) (by decide) (by omega) rfl rfl rfl (fun hp => ?_) (fun v3 s3 hp3 => ?_)
      · rw [hpj, hp] at hC
        exact runX_pan hC (fun _ h => h.drop.drop.drop) (rgK_none a' (Mem.le_refl _))
      have z3 := pTm_sz hp3
      have z4 := (pTm_back hp3).1
      rw [hp3, Option.bind_some] at hpj
      refine ⟨by (repeat (first | exact trivial | refine And.intro (pend_q rfl rfl rfl (qt_pev tok rfl)) ?_ | refine And.intro (pend_q rfl rfl rfl (ql tok rfl)) ?_)), ?_⟩
      repeat (first | with_reducible (first | refine cS ?_ | refine cR ?_ | refine cN ?_ | refine cK ?_ | refine cB ?_ | refine cI ?_) | refine cE rfl ?_ | refine rq (qt_pev tok rfl) ?_ | refine rg rfl rfl (qt_pev tok rfl) ?_ | refine rq (ql tok rfl) ?_ | refine rg rfl rfl (ql tok rfl) ?_ | (refine runL_op0 (sst tok rfl rfl rfl rfl rfl) ?_; rintro _ _ _ ⟨rfl, rfl, rfl⟩) | ((first | refine ro (st_box rfl) ?_ | refine ro (st_alloc tok rfl) ?_ | refine ro (st_buildSlice tok rfl rfl rfl rfl rfl rfl rfl) ?_); rintro _ _ _ ⟨_, rfl, rfl, rfl⟩) | refine prn_start mixed ?_ | refine prn_end (by decide +kernel) ?_ | refine pq rfl (qt_pev tok rfl) ?_ | refine pg rfl rfl rfl (qt_pev tok rfl) ?_ | refine pq rfl (ql tok rfl) ?_ | refine pg rfl rfl rfl (ql tok rfl) ?_ | (refine prn_e0 rfl (sst tok rfl rfl rfl rfl rfl) (by decide +kernel) ?_; rintro _ _ _ ⟨rfl, rfl, rfl⟩) | ((first | refine pe rfl (st_box rfl) ?_ | refine pe rfl (st_alloc tok rfl) ?_ | refine pe rfl (st_buildSlice tok rfl rfl rfl rfl rfl rfl rfl) ?_); rintro _ _ _ ⟨_, rfl, rfl, rfl⟩) | (refine prn_o0 rfl (sst tok rfl rfl rfl rfl rfl) (by decide +kernel) ?_; rintro _ _ _ ⟨rfl, rfl, rfl⟩; refine ⟨by (repeat (first | exact trivial | refine And.intro (pend_q rfl rfl rfl (qt_pev tok rfl)) ?_ | refine And.intro (pend_q rfl rfl rfl (ql tok rfl)) ?_)), ?_⟩) | ((first | refine po rfl (st_box rfl) ?_ | refine po rfl (st_alloc tok rfl) ?_ | refine po rfl (st_buildSlice tok rfl rfl rfl rfl rfl rfl rfl) ?_); rintro _ _ _ ⟨_, rfl, rfl, rfl⟩; refine ⟨by (repeat (first | exact trivial | refine And.intro (pend_q rfl rfl rfl (qt_pev tok rfl)) ?_ | refine And.intro (pend_q rfl rfl rfl (ql tok rfl)) ?_)), ?_⟩) | (refine pe rfl (qt_pev tok rfl) ?_; rintro _ _ _ ⟨rfl, rfl, rfl⟩))
      rw [← rwC_snoc]
      refine run_sub' (hnext _ _ _ ⟨hlt, rfl, xs ++ [⟨v2, v3⟩], s3, by simp [hxl], ?_, by omega, ?_, rfl, rfl⟩) ⟨lk_succ rfl (by omega), rfl, rfl, trivial⟩
      · rw [hpj, Option.bind_assoc]
        simp
      · intro m hm
        rcases List.mem_append.1 hm with hm | hm
        · exact hd m hm
        · rw [List.mem_singleton.1 hm]; exact z4
    · have hge : j = c := by simp at h; omega
      rw [hge, Nat.sub_self, pGs, Option.bind_some, List.append_nil] at hpj
      rw [hpj, Option.bind_some] at hC
      rw [hge, Nat.sub_self, rwC, List.replicate_zero, List.flatten_nil, List.append_nil]
      repeat (first | with_reducible (first | refine cS ?_ | refine cR ?_ | refine cN ?_ | refine cK ?_ | refine cB ?_ | refine cI ?_) | refine cE rfl ?_ | refine rq (qt_pev tok rfl) ?_ | refine rg rfl rfl (qt_pev tok rfl) ?_ | refine rq (ql tok rfl) ?_ | refine rg rfl rfl (ql tok rfl) ?_ | (refine runL_op0 (sst tok rfl rfl rfl rfl rfl) ?_; rintro _ _ _ ⟨rfl, rfl, rfl⟩) | ((first | refine ro (st_box rfl) ?_ | refine ro (st_alloc tok rfl) ?_ | refine ro (st_buildSlice tok rfl rfl rfl rfl rfl rfl rfl) ?_); rintro _ _ _ ⟨_, rfl, rfl, rfl⟩))
      refine run_frz 1 rfl ?_
      intro M2 hM2 hb
      have hsl := SlZ.ofBlk hb rfl (mb_all xs)
      rw [List.length_map, hxl, hge] at hsl
      subst ha'
      refine run_endX hro ?_
      refine runX_ret hC (rs := []) rfl (vs := []) trivial (fun _ h => h.drop2) (rgK_some (a := { a with gives := ⟨some ⟨b, 0, none⟩, c, c, xs⟩ }) hM2 ⟨⟨hsl.m, by show c < _; omega⟩, hq.steps.le hM2, fun m hm => by have := hd m hm; omega⟩ rfl)
  · intro ch _ _ h
    obtain ⟨hp, rfl, rfl, rfl⟩ := rowK_pan h
    rw [sGiv, pGives, hp] at hC
    exact runX_pan hC (fun _ h => h.drop.drop) (rgK_none a (Mem.le_refl _))
end Go.Proofs.Ytbpgiodfccijmaa
namespace Go.Proofs.Ytbpgiodfccijmaa
open Go.Chi

/-! ### a step, read field by field -/
def pTl (d a b c n : Int) (S : ByteArray) : Option (Sp × ByteArray) := (pTm 1024 S).bind fun t => (pN 32 t.2).bind fun k => (pNs k.1.toNat k.2).bind fun z => some (⟨d, a, b, c, n, t.1, z.1⟩, z.2)
def pQ3 (d a b c : Int) (S : ByteArray) : Option (Sp × ByteArray) := (pN 2147483647 S).bind fun n => pTl d a b c n.1 n.2
def pQ2 (d a b : Int) (S : ByteArray) : Option (Sp × ByteArray) := (pN 2147483647 S).bind fun n => pQ3 d a b n.1 n.2
def pQ1 (d a : Int) (S : ByteArray) : Option (Sp × ByteArray) := (pN 2147483647 S).bind fun n => pQ2 d a n.1 n.2
def pQ0 (d : Int) (S : ByteArray) : Option (Sp × ByteArray) := (pN 2147483647 S).bind fun n => pQ1 d n.1 n.2
theorem pSp_q (s : ByteArray) : pSp s = (pN 9 s).bind fun d => pQ0 d.1 d.2 := rfl
def mdC (d a b c n : Int) (t : ByteArray) (v : Value) : List Value := [.int .u8 d, .int .i64 a, .int .i64 b, .int .i64 c, .int .i64 n, .string t, v]
theorem srC_len (x : Sr) : (srC x).length = 7 := rfl
theorem sr_all (xs : List Sr) : ∀ l ∈ xs.map srC, l.length = 7 := by intro l hl; obtain ⟨p, _, rfl⟩ := List.mem_map.1 hl; rfl
theorem inC_len (x : Int) : (inC x).length = 1 := rfl
theorem in_all (xs : List Int) : ∀ l ∈ xs.map inC, l.length = 1 := by intro l hl; obtain ⟨p, _, rfl⟩ := List.mem_map.1 hl; rfl
set_option maxRecDepth 10000 in
set_option maxHeartbeats 8000000 in
theorem steps2_b (M : Mem) (X : HL) (b b3 p : Nat) (cs : List Value) (f : Value → List Value) (hf : ∀ v, setE cs (p + 6) [v] = some (f v)) (c : Nat) (hc : c < 1000000) :
    Tr Try.prog 66 [.int .i64 (c : Int), .pointer (some ⟨b3, 0, none⟩)] M (obB b3 [.pointer (some ⟨b, p, none⟩)] 110 :: obB b cs 51 :: X) (fun v M' L' => v = .tuple ⟨[]⟩ ∧ M = M' ∧ ∃ bl, L' = obB bl ((List.replicate c [Value.int .i64 0]).flatten) 3 :: obB b3 [.pointer (some ⟨b, p, none⟩)] 110 :: obB b (f (.slice (some ⟨bl, 0, none⟩) c c)) 51 :: X) := by
  refine Tr.intro 8 Try.func66 rfl rfl Try.call66 rfl ?_
  intro C hC hro
  repeat (first | with_reducible (first | refine cS ?_ | refine cR ?_ | refine cN ?_ | refine cK ?_ | refine cB ?_ | refine cI ?_) | refine cE rfl ?_ | refine rq (qt_pev tok rfl) ?_ | refine rg rfl rfl (qt_pev tok rfl) ?_ | refine rq (ql tok rfl) ?_ | refine rg rfl rfl (ql tok rfl) ?_ | (refine runL_op0 (sst tok rfl rfl rfl rfl rfl) ?_; rintro _ _ _ ⟨rfl, rfl, rfl⟩) | ((first | refine ro (st_box rfl) ?_ | refine ro (st_alloc tok rfl) ?_ | refine ro (st_buildSlice tok rfl rfl rfl rfl rfl rfl rfl) ?_); rintro _ _ _ ⟨_, rfl, rfl, rfl⟩) | refine prn_start mixed ?_ | refine prn_end (by decide +kernel) ?_ | refine pq rfl (qt_pev tok rfl) ?_ | refine pg rfl rfl rfl (qt_pev tok rfl) ?_ | refine pq rfl (ql tok rfl) ?_ | refine pg rfl rfl rfl (ql tok rfl) ?_ | (refine prn_e0 rfl (sst tok rfl rfl rfl rfl rfl) (by decide +kernel) ?_; rintro _ _ _ ⟨rfl, rfl, rfl⟩) | ((first | refine pe rfl (st_box rfl) ?_ | refine pe rfl (st_alloc tok rfl) ?_ | refine pe rfl (st_buildSlice tok rfl rfl rfl rfl rfl rfl rfl) ?_); rintro _ _ _ ⟨_, rfl, rfl, rfl⟩) | (refine prn_o0 rfl (sst tok rfl rfl rfl rfl rfl) (by decide +kernel) ?_; rintro _ _ _ ⟨rfl, rfl, rfl⟩; refine ⟨by (repeat (first | exact trivial | refine And.intro (pend_q rfl rfl rfl (qt_pev tok rfl)) ?_ | refine And.intro (pend_q rfl rfl rfl (ql tok rfl)) ?_)), ?_⟩) | ((first | refine po rfl (st_box rfl) ?_ | refine po rfl (st_alloc tok rfl) ?_ | refine po rfl (st_buildSlice tok rfl rfl rfl rfl rfl rfl rfl) ?_); rintro _ _ _ ⟨_, rfl, rfl, rfl⟩; refine ⟨by (repeat (first | exact trivial | refine And.intro (pend_q rfl rfl rfl (qt_pev tok rfl)) ?_ | refine And.intro (pend_q rfl rfl rfl (ql tok rfl)) ?_)), ?_⟩) | (refine pe rfl (qt_pev tok rfl) ?_; rintro _ _ _ ⟨rfl, rfl, rfl⟩))
  refine prn_o1 rfl (st_makeSliceG tok c rfl rfl rfl (zc := [.int .i64 0]) rfl rfl rfl rfl rfl (by omega) (by omega)) (by decide +kernel) rfl rfl rfl ?_
  rintro _ _ _ ⟨bl, rfl, rfl, rfl⟩
  refine ⟨by (repeat (first | exact trivial | refine And.intro (pend_q rfl rfl rfl (qt_pev tok rfl)) ?_ | refine And.intro (pend_q rfl rfl rfl (ql tok rfl)) ?_)), ?_⟩
  have hst := hf (.slice (some ⟨bl, 0, none⟩) c c)
  repeat (first | with_reducible (first | refine cS ?_ | refine cR ?_ | refine cN ?_ | refine cK ?_ | refine cB ?_ | refine cI ?_) | refine cE rfl ?_ | refine rq (qt_pev tok rfl) ?_ | refine rg rfl rfl (qt_pev tok rfl) ?_ | refine rq (ql tok rfl) ?_ | refine rg rfl rfl (ql tok rfl) ?_ | (refine runL_op0 (sst tok rfl rfl rfl rfl rfl) ?_; rintro _ _ _ ⟨rfl, rfl, rfl⟩) | ((first | refine ro (st_box rfl) ?_ | refine ro (st_alloc tok rfl) ?_ | refine ro (st_buildSlice tok rfl rfl rfl rfl rfl rfl rfl) ?_); rintro _ _ _ ⟨_, rfl, rfl, rfl⟩) | refine prn_start mixed ?_ | refine prn_end (by decide +kernel) ?_ | refine pq rfl (qt_pev tok rfl) ?_ | refine pg rfl rfl rfl (qt_pev tok rfl) ?_ | refine pq rfl (ql tok rfl) ?_ | refine pg rfl rfl rfl (ql tok rfl) ?_ | (refine prn_e0 rfl (sst tok rfl rfl rfl rfl rfl) (by decide +kernel) ?_; rintro _ _ _ ⟨rfl, rfl, rfl⟩) | ((first | refine pe rfl (st_box rfl) ?_ | refine pe rfl (st_alloc tok rfl) ?_ | refine pe rfl (st_buildSlice tok rfl rfl rfl rfl rfl rfl rfl) ?_); rintro _ _ _ ⟨_, rfl, rfl, rfl⟩) | (refine prn_o0 rfl (sst tok rfl rfl rfl rfl rfl) (by decide +kernel) ?_; rintro _ _ _ ⟨rfl, rfl, rfl⟩; refine ⟨by (repeat (first | exact trivial | refine And.intro (pend_q rfl rfl rfl (qt_pev tok rfl)) ?_ | refine And.intro (pend_q rfl rfl rfl (ql tok rfl)) ?_)), ?_⟩) | ((first | refine po rfl (st_box rfl) ?_ | refine po rfl (st_alloc tok rfl) ?_ | refine po rfl (st_buildSlice tok rfl rfl rfl rfl rfl rfl rfl) ?_); rintro _ _ _ ⟨_, rfl, rfl, rfl⟩; refine ⟨by (repeat (first | exact trivial | refine And.intro (pend_q rfl rfl rfl (qt_pev tok rfl)) ?_ | refine And.intro (pend_q rfl rfl rfl (ql tok rfl)) ?_)), ?_⟩) | (refine pe rfl (qt_pev tok rfl) ?_; rintro _ _ _ ⟨rfl, rfl, rfl⟩) | (refine prn_o0 rfl (st_store tok rfl rfl rfl rfl rfl (by (repeat (first | with_reducible apply Upd.here | with_reducible apply Upd.there | with_reducible apply Upd.append_left))) hst) (by decide +kernel) ?_; rintro _ _ _ ⟨rfl, rfl, rfl⟩; refine ⟨by (repeat (first | exact trivial | refine And.intro (pend_q rfl rfl rfl (qt_pev tok rfl)) ?_ | refine And.intro (pend_q rfl rfl rfl (ql tok rfl)) ?_)), ?_⟩))
  exact run_end hC (rs := []) rfl resN (fun _ h => h) ⟨rfl, rfl, bl, rfl⟩
end Go.Proofs.Ytbpgiodfccijmaa
namespace Go.Proofs.Ytbpgiodfccijmaa
open Go.Chi

theorem rwC_seg {α : Type} {f : α → List Value} {w : Nat} (hf : ∀ x, (f x).length = w) (xs : List α) {x post : List Value} {j : Nat} (hj : xs.length = j) : SegAt ((xs.map f).flatten ++ (x ++ post)) (0 + j * w) x := by
  intro i u hu
  have hl := flat_len f w hf xs
  rw [hj] at hl
  have hi : i < x.length := (List.getElem?_eq_some_iff.1 hu).1
  rw [List.getElem?_append_right (by omega), List.getElem?_append_left (by omega)]
  rw [← hu]
  congr 1
  omega
theorem pmid4 (N L : HL) (x y z u : Nat × Obj) : (N ++ x :: y :: z :: u :: L).Perm (x :: y :: z :: u :: (N ++ L)) := List.perm_middle.trans (List.Perm.cons _ (pmid3 N L y z u))
set_option maxRecDepth 10000 in
set_option maxHeartbeats 64000000 in
theorem rstepsF_ok (M : Mem) (L : HL) (ba br : Nat) (s : ByteArray) (a : Ax) (hs : s.size < 4611686018427387904) (hq : AxW M a) :
    TrE Try.prog 52 [.agg ⟨fmC ba rT br⟩] M (rcB br s :: axB ba a :: L) (rgK (sStp a.aa s) br ba M L) := by
  refine TrE.intro 95 Try.func52 rfl rfl Try.call52 rfl ?_
  intro C hC hro
  repeat (first | with_reducible (first | refine cS ?_ | refine cR ?_ | refine cN ?_ | refine cK ?_ | refine cB ?_ | refine cI ?_) | refine cE rfl ?_ | refine rq (qt_pev tok rfl) ?_ | refine rg rfl rfl (qt_pev tok rfl) ?_ | refine rq (ql tok rfl) ?_ | refine rg rfl rfl (ql tok rfl) ?_ | (refine runL_op0 (sst tok rfl rfl rfl rfl rfl) ?_; rintro _ _ _ ⟨rfl, rfl, rfl⟩) | ((first | refine ro (st_box rfl) ?_ | refine ro (st_alloc tok rfl) ?_ | refine ro (st_buildSlice tok rfl rfl rfl rfl rfl rfl rfl) ?_); rintro _ _ _ ⟨_, rfl, rfl, rfl⟩) | refine prn_start mixed ?_ | refine prn_end (by decide +kernel) ?_ | refine pq rfl (qt_pev tok rfl) ?_ | refine pg rfl rfl rfl (qt_pev tok rfl) ?_ | refine pq rfl (ql tok rfl) ?_ | refine pg rfl rfl rfl (ql tok rfl) ?_ | (refine prn_e0 rfl (sst tok rfl rfl rfl rfl rfl) (by decide +kernel) ?_; rintro _ _ _ ⟨rfl, rfl, rfl⟩) | ((first | refine pe rfl (st_box rfl) ?_ | refine pe rfl (st_alloc tok rfl) ?_ | refine pe rfl (st_buildSlice tok rfl rfl rfl rfl rfl rfl rfl) ?_); rintro _ _ _ ⟨_, rfl, rfl, rfl⟩) | (refine prn_o0 rfl (sst tok rfl rfl rfl rfl rfl) (by decide +kernel) ?_; rintro _ _ _ ⟨rfl, rfl, rfl⟩; refine ⟨by (repeat (first | exact trivial | refine And.intro (pend_q rfl rfl rfl (qt_pev tok rfl)) ?_ | refine And.intro (pend_q rfl rfl rfl (ql tok rfl)) ?_)), ?_⟩) | ((first | refine po rfl (st_box rfl) ?_ | refine po rfl (st_alloc tok rfl) ?_ | refine po rfl (st_buildSlice tok rfl rfl rfl rfl rfl rfl rfl) ?_); rintro _ _ _ ⟨_, rfl, rfl, rfl⟩; refine ⟨by (repeat (first | exact trivial | refine And.intro (pend_q rfl rfl rfl (qt_pev tok rfl)) ?_ | refine And.intro (pend_q rfl rfl rfl (ql tok rfl)) ?_)), ?_⟩) | (refine pe rfl (qt_pev tok rfl) ?_; rintro _ _ _ ⟨rfl, rfl, rfl⟩))
  rename_i bf
  refine pr_q 9 (by decide +kernel) rfl (qt_pev tok rfl) rfl rfl rfl ?_
  refine pr_callE 8 (by decide +kernel) rfl rfl (trEPerm (List.Perm.swap _ _ _) (rrows_ok M (obB bf (fmC ba rT br) 78 :: axB ba a :: L) ba br s a.steps.len 64 65 (.pointer (some ⟨bf, 0, none⟩)) (fun c b => obB b ((List.replicate c zSp).flatten) 51 :: obB bf (fmC ba rT br) 78 :: axB ba { a with steps := ⟨some ⟨b, 0, none⟩, c, c, []⟩ } :: L) (by decide) hs ?_)) rfl rfl rfl ?_ ?_
  · intro c N hc
    refine trCons (trPerm (L' := obB bf (fmC ba rT br) 78 :: axB ba a :: (N ++ L)) ?_ (steps1_b M (N ++ L) ba br bf a c (by omega))) ?_
    · exact pmid2 _ _ _ _
    · rintro v M' _ ⟨rfl, rfl, b, rfl⟩
      exact ⟨_, fun w h => h.perm (pmid3 _ _ _ _ _).symm, rfl, rfl, b, rfl⟩
  · intro v M1 _ h
    obtain ⟨c, b, s1, hp1, hc, rfl, rfl, rfl⟩ := rowK_ret h
    clear h
    have z1 := pN_sz hp1
    have hg : sStp a.aa s = (pSps c s1).bind fun x => some ({ a.aa with steps := x.1 }, x.2) := by
      rw [sStp, pSteps, hp1, Option.bind_some, Int.toNat_natCast]
    rw [hg] at hC
    refine ⟨by (repeat (first | exact trivial | refine And.intro (pend_q rfl rfl rfl (qt_pev tok rfl)) ?_ | refine And.intro (pend_q rfl rfl rfl (ql tok rfl)) ?_)), ?_⟩
    refine pr_end (by decide +kernel) (by decide +kernel) ?_
    repeat (first | with_reducible (first | refine cS ?_ | refine cR ?_ | refine cN ?_ | refine cK ?_ | refine cB ?_ | refine cI ?_) | refine cE rfl ?_ | refine rq (qt_pev tok rfl) ?_ | refine rg rfl rfl (qt_pev tok rfl) ?_ | refine rq (ql tok rfl) ?_ | refine rg rfl rfl (ql tok rfl) ?_ | (refine runL_op0 (sst tok rfl rfl rfl rfl rfl) ?_; rintro _ _ _ ⟨rfl, rfl, rfl⟩) | ((first | refine ro (st_box rfl) ?_ | refine ro (st_alloc tok rfl) ?_ | refine ro (st_buildSlice tok rfl rfl rfl rfl rfl rfl rfl) ?_); rintro _ _ _ ⟨_, rfl, rfl, rfl⟩))
    generalize ha' : ({ a with steps := ⟨some ⟨b, 0, none⟩, c, c, []⟩ } : Ax) = a'
    have hv : a'.steps.v = .slice (some ⟨b, 0, none⟩) c c := by rw [← ha']; rfl
    refine run_loopN (fun j σ1 M2 L1 => j ≤ c ∧ M1.le M2 ∧ ∃ (xs : List Sr) (sj : ByteArray), xs.length = j ∧ (pSps c s1 = (pSps (c - j) sj).bind fun z => some (xs.map Sr.sp ++ z.1, z.2)) ∧ sj.size ≤ s.size ∧ (∀ x ∈ xs, SrOk M2 x) ∧ L1 = rcB br sj :: obB b (rwC srC zSp xs (c - j)) 51 :: obB bf (fmC ba rT br) 78 :: axB ba a' :: L ∧ σ1 = [(17, .int .i64 (j : Int)), (16, .int .i64 (c : Int)), (1, .pointer (some ⟨bf, 0, none⟩))]) c [(17, .int .i64 ((0 : Nat) : Int)), (16, .int .i64 (c : Int)), (1, .pointer (some ⟨bf, 0, none⟩))] ?_ ⟨Nat.zero_le _, Mem.le_refl _, [], s1, rfl, by rw [Nat.sub_zero]; cases pSps c s1 <;> rfl, z1, (fun m hm => by cases hm), rfl, rfl⟩ (fun j _ _ _ h => h.1) ?_
    · exact ⟨rfl, rfl, rfl, trivial⟩
    rintro j _ M2 _ ⟨hj, hM2, xs, sj, hxl, hpj, hsj, hd, rfl, rfl⟩ hnext
    repeat (first | with_reducible (first | refine cS ?_ | refine cR ?_ | refine cN ?_ | refine cK ?_ | refine cB ?_ | refine cI ?_) | refine cE rfl ?_ | refine rq (qt_pev tok rfl) ?_ | refine rg rfl rfl (qt_pev tok rfl) ?_ | refine rq (ql tok rfl) ?_ | refine rg rfl rfl (ql tok rfl) ?_ | (refine runL_op0 (sst tok rfl rfl rfl rfl rfl) ?_; rintro _ _ _ ⟨rfl, rfl, rfl⟩) | ((first | refine ro (st_box rfl) ?_ | refine ro (st_alloc tok rfl) ?_ | refine ro (st_buildSlice tok rfl rfl rfl rfl rfl rfl rfl) ?_); rintro _ _ _ ⟨_, rfl, rfl, rfl⟩))
    refine run_cond rfl (fun h => ?_) (fun h => ?_)
    · have hlt : j < c := by simpa using h
      have hc1 : c - j = (c - (j + 1)) + 1 := by omega
      rw [hc1, pSps] at hpj
      rw [hc1, rwC_succ]
      generalize hR : pSp sj = R at hpj
      have hst : ∀ (mid mid' vs : List Value) (k : Nat), setE mid k vs = some mid' → setE ((xs.map srC).flatten ++ (mid ++ (List.replicate (c - (j + 1)) zSp).flatten)) (0 + j * 7 + k) vs = some ((xs.map srC).flatten ++ (mid' ++ (List.replicate (c - (j + 1)) zSp).flatten)) := fun mid mid' vs k h => rwC_set srC_len xs hxl h
      have hseg : ∀ mid : List Value, SegAt ((xs.map srC).flatten ++ (mid ++ (List.replicate (c - (j + 1)) zSp).flatten)) (0 + j * 7) mid := fun mid => rwC_seg srC_len xs hxl
      generalize hpre : (xs.map srC).flatten = pre at hst hseg ⊢
      generalize hpost : (List.replicate (c - (j + 1)) zSp).flatten = post at hst hseg ⊢
      repeat (first | with_reducible (first | refine cS ?_ | refine cR ?_ | refine cN ?_ | refine cK ?_ | refine cB ?_ | refine cI ?_) | refine cE rfl ?_ | refine rq (qt_pev tok rfl) ?_ | refine rg rfl rfl (qt_pev tok rfl) ?_ | refine rq (ql tok rfl) ?_ | refine rg rfl rfl (ql tok rfl) ?_ | (refine runL_op0 (sst tok rfl rfl rfl rfl rfl) ?_; rintro _ _ _ ⟨rfl, rfl, rfl⟩) | ((first | refine ro (st_box rfl) ?_ | refine ro (st_alloc tok rfl) ?_ | refine ro (st_buildSlice tok rfl rfl rfl rfl rfl rfl rfl) ?_); rintro _ _ _ ⟨_, rfl, rfl, rfl⟩))
      refine runL_as 24 (.slice (some ⟨b, 0, none⟩) c c) rfl hv ?_
      repeat (first | with_reducible (first | refine cS ?_ | refine cR ?_ | refine cN ?_ | refine cK ?_ | refine cB ?_ | refine cI ?_) | refine cE rfl ?_ | refine rq (qt_pev tok rfl) ?_ | refine rg rfl rfl (qt_pev tok rfl) ?_ | refine rq (ql tok rfl) ?_ | refine rg rfl rfl (ql tok rfl) ?_ | (refine runL_op0 (sst tok rfl rfl rfl rfl rfl) ?_; rintro _ _ _ ⟨rfl, rfl, rfl⟩) | ((first | refine ro (st_box rfl) ?_ | refine ro (st_alloc tok rfl) ?_ | refine ro (st_buildSlice tok rfl rfl rfl rfl rfl rfl rfl) ?_); rintro _ _ _ ⟨_, rfl, rfl, rfl⟩) | refine runL_q (qt_indexN tok rfl rfl rfl rfl (fun _ => by omega)) rfl rfl rfl ?_ | refine runL_q (qt_ldB (k := 0) tok rfl (hseg zSp) (by (repeat (first | with_reducible apply List.mem_cons_self | with_reducible assumption | with_reducible apply List.mem_cons_of_mem | with_reducible apply List.mem_append_right))) rfl) rfl rfl rfl ?_)
      rename_i b3 b4
      refine runL_rnumI (most := 9) rfl rfl (p3 _ _ _ _) (fun v => [.int .i64 v]) (fun v => rfl) (by decide) (by omega) rfl rfl rfl (fun hp => ?_) (fun d s2 hp2 => ?_)
      · rw [hpj, ← hR, pSp_q, hp] at hC
        exact runX_pan hC (fun _ h => h.drop.drop.drop.drop.drop) (rgK_none a' hM2)
      have z2 := pN_sz hp2
      obtain ⟨d0, d9, _⟩ := pN_back hp2
      have hR0 : R = pQ0 d s2 := by rw [← hR, pSp_q, hp2, Option.bind_some]
      have e2 : IntKind.u8.wrap d = d := by
        obtain ⟨x, hx⟩ : ∃ x : Nat, d = x := ⟨d.toNat, by omega⟩
        rw [hx, u8_nat (by omega)]
      refine runL_mem (M' := M2) (L' := rcB br s2 :: obB b (pre ++ (zSp ++ post)) 51 :: obB b4 [.int .i64 d] 3 :: obB b3 [.pointer (some ⟨b, 0 + j * 7, none⟩)] 110 :: obB bf (fmC ba rT br) 78 :: axB ba a' :: L) (fun _ h => h.perm (List.Perm.cons _ (p3 _ _ _ _))) ?_
      repeat (first | with_reducible (first | refine cS ?_ | refine cR ?_ | refine cN ?_ | refine cK ?_ | refine cB ?_ | refine cI ?_) | refine cE rfl ?_ | refine rq (qt_pev tok rfl) ?_ | refine rg rfl rfl (qt_pev tok rfl) ?_ | refine rq (ql tok rfl) ?_ | refine rg rfl rfl (ql tok rfl) ?_ | (refine runL_op0 (sst tok rfl rfl rfl rfl rfl) ?_; rintro _ _ _ ⟨rfl, rfl, rfl⟩) | ((first | refine ro (st_box rfl) ?_ | refine ro (st_alloc tok rfl) ?_ | refine ro (st_buildSlice tok rfl rfl rfl rfl rfl rfl rfl) ?_); rintro _ _ _ ⟨_, rfl, rfl, rfl⟩))
      refine runL_as 37 (.int .u8 d) rfl (by rw [e2]) ?_
      repeat (first | with_reducible (first | refine cS ?_ | refine cR ?_ | refine cN ?_ | refine cK ?_ | refine cB ?_ | refine cI ?_) | refine cE rfl ?_ | refine rq (qt_pev tok rfl) ?_ | refine rg rfl rfl (qt_pev tok rfl) ?_ | refine rq (ql tok rfl) ?_ | refine rg rfl rfl (ql tok rfl) ?_ | (refine runL_op0 (sst tok rfl rfl rfl rfl rfl) ?_; rintro _ _ _ ⟨rfl, rfl, rfl⟩) | ((first | refine ro (st_box rfl) ?_ | refine ro (st_alloc tok rfl) ?_ | refine ro (st_buildSlice tok rfl rfl rfl rfl rfl rfl rfl) ?_); rintro _ _ _ ⟨_, rfl, rfl, rfl⟩))
      refine runL_op0 (st_store tok rfl rfl rfl rfl rfl (by (repeat (first | with_reducible apply Upd.here | with_reducible apply Upd.there | with_reducible apply Upd.append_left))) (hst zSp (mdC d 0 0 0 0 ⟨#[]⟩ (.slice none 0 0)) _ 0 rfl)) ?_
      rintro _ _ _ ⟨rfl, rfl, rfl⟩
      repeat (first | with_reducible (first | refine cS ?_ | refine cR ?_ | refine cN ?_ | refine cK ?_ | refine cB ?_ | refine cI ?_) | refine cE rfl ?_ | refine rq (qt_pev tok rfl) ?_ | refine rg rfl rfl (qt_pev tok rfl) ?_ | refine rq (ql tok rfl) ?_ | refine rg rfl rfl (ql tok rfl) ?_ | (refine runL_op0 (sst tok rfl rfl rfl rfl rfl) ?_; rintro _ _ _ ⟨rfl, rfl, rfl⟩) | ((first | refine ro (st_box rfl) ?_ | refine ro (st_alloc tok rfl) ?_ | refine ro (st_buildSlice tok rfl rfl rfl rfl rfl rfl rfl) ?_); rintro _ _ _ ⟨_, rfl, rfl, rfl⟩))
      repeat (first | with_reducible (first | refine cS ?_ | refine cR ?_ | refine cN ?_ | refine cK ?_ | refine cB ?_ | refine cI ?_) | refine cE rfl ?_ | refine rq (qt_pev tok rfl) ?_ | refine rg rfl rfl (qt_pev tok rfl) ?_ | refine rq (ql tok rfl) ?_ | refine rg rfl rfl (ql tok rfl) ?_ | (refine runL_op0 (sst tok rfl rfl rfl rfl rfl) ?_; rintro _ _ _ ⟨rfl, rfl, rfl⟩) | ((first | refine ro (st_box rfl) ?_ | refine ro (st_alloc tok rfl) ?_ | refine ro (st_buildSlice tok rfl rfl rfl rfl rfl rfl rfl) ?_); rintro _ _ _ ⟨_, rfl, rfl, rfl⟩) | refine prn_start mixed ?_ | refine prn_end (by decide +kernel) ?_ | refine pq rfl (qt_pev tok rfl) ?_ | refine pg rfl rfl rfl (qt_pev tok rfl) ?_ | refine pq rfl (ql tok rfl) ?_ | refine pg rfl rfl rfl (ql tok rfl) ?_ | (refine prn_e0 rfl (sst tok rfl rfl rfl rfl rfl) (by decide +kernel) ?_; rintro _ _ _ ⟨rfl, rfl, rfl⟩) | ((first | refine pe rfl (st_box rfl) ?_ | refine pe rfl (st_alloc tok rfl) ?_ | refine pe rfl (st_buildSlice tok rfl rfl rfl rfl rfl rfl rfl) ?_); rintro _ _ _ ⟨_, rfl, rfl, rfl⟩) | (refine prn_o0 rfl (sst tok rfl rfl rfl rfl rfl) (by decide +kernel) ?_; rintro _ _ _ ⟨rfl, rfl, rfl⟩; refine ⟨by (repeat (first | exact trivial | refine And.intro (pend_q rfl rfl rfl (qt_pev tok rfl)) ?_ | refine And.intro (pend_q rfl rfl rfl (ql tok rfl)) ?_)), ?_⟩) | ((first | refine po rfl (st_box rfl) ?_ | refine po rfl (st_alloc tok rfl) ?_ | refine po rfl (st_buildSlice tok rfl rfl rfl rfl rfl rfl rfl) ?_); rintro _ _ _ ⟨_, rfl, rfl, rfl⟩; refine ⟨by (repeat (first | exact trivial | refine And.intro (pend_q rfl rfl rfl (qt_pev tok rfl)) ?_ | refine And.intro (pend_q rfl rfl rfl (ql tok rfl)) ?_)), ?_⟩) | (refine pe rfl (qt_pev tok rfl) ?_; rintro _ _ _ ⟨rfl, rfl, rfl⟩))
      refine pr_q 14 (by decide +kernel) rfl (qt_pev tok rfl) rfl rfl rfl ?_
      refine pr_one 12 (by decide +kernel) (eff1 12 rfl (St.frz1 (V := fun b => .slice (some ⟨b, 0, none⟩) 4 4) (st_buildSlice tok rfl rfl rfl rfl rfl rfl rfl)) (by decide +kernel) (qs := _) rfl rfl rfl rfl ?_)
      rintro _ M3 _ ⟨hM3, rfl, bq, rfl, hbq⟩
      have hq4 := Cells.ofBlk hbq
      refine ⟨by (repeat (first | exact trivial | refine And.intro (pend_q rfl rfl rfl (qt_pev tok rfl)) ?_ | refine And.intro (pend_q rfl rfl rfl (ql tok rfl)) ?_)), ?_⟩
      refine pr_q 13 (by decide +kernel) rfl (qt_pev tok rfl) rfl rfl rfl ?_
      refine pr_end (by decide +kernel) (by decide +kernel) ?_
      refine run_block ?_
      have hM13 := Mem.le_trans hM2 hM3
      refine run_loopN (fun i σ1 M4 L1 => i ≤ 4 ∧ M3 = M4 ∧ ∃ (x0 x1 x2 x3 : Int) (S : ByteArray), S.size ≤ s.size ∧ L1 = rcB br S :: obB b (pre ++ (mdC d x0 x1 x2 x3 ⟨#[]⟩ (.slice none 0 0) ++ post)) 51 :: obB b4 [.int .i64 d] 3 :: obB b3 [.pointer (some ⟨b, 0 + j * 7, none⟩)] 110 :: obB bf (fmC ba rT br) 78 :: axB ba a' :: L ∧ (i = 0 → R = pQ0 d S) ∧ (i = 1 → R = pQ1 d x0 S) ∧ (i = 2 → R = pQ2 d x0 x1 S) ∧ (i = 3 → R = pQ3 d x0 x1 x2 S) ∧ (i = 4 → R = pTl d x0 x1 x2 x3 S) ∧ σ1 = [(54, .int .i64 (i : Int)), (53, .int .i64 ((4 : Nat) : Int)), (52, .slice (some ⟨bq, 0, none⟩) 4 4), (3, .pointer (some ⟨b3, 0, none⟩)), (17, .int .i64 (j : Int)), (16, .int .i64 (c : Int)), (1, .pointer (some ⟨bf, 0, none⟩))]) 4 [(54, .int .i64 ((0 : Nat) : Int)), (53, .int .i64 ((4 : Nat) : Int)), (52, .slice (some ⟨bq, 0, none⟩) 4 4), (3, .pointer (some ⟨b3, 0, none⟩)), (17, .int .i64 (j : Int)), (16, .int .i64 (c : Int)), (1, .pointer (some ⟨bf, 0, none⟩))] ?_ ⟨Nat.zero_le _, rfl, 0, 0, 0, 0, s2, by omega, rfl, (fun _ => hR0), (fun h => by omega), (fun h => by omega), (fun h => by omega), (fun h => by omega), rfl⟩ (fun j _ _ _ h => h.1) ?_
      · exact ⟨rfl, rfl, rfl, rfl, rfl, rfl, rfl, trivial⟩
      rintro i _ _ _ ⟨hi, rfl, x0, x1, x2, x3, S, hS, rfl, r0, r1, r2, r3, r4, rfl⟩ hnx
      repeat (first | with_reducible (first | refine cS ?_ | refine cR ?_ | refine cN ?_ | refine cK ?_ | refine cB ?_ | refine cI ?_) | refine cE rfl ?_ | refine rq (qt_pev tok rfl) ?_ | refine rg rfl rfl (qt_pev tok rfl) ?_ | refine rq (ql tok rfl) ?_ | refine rg rfl rfl (ql tok rfl) ?_ | (refine runL_op0 (sst tok rfl rfl rfl rfl rfl) ?_; rintro _ _ _ ⟨rfl, rfl, rfl⟩) | ((first | refine ro (st_box rfl) ?_ | refine ro (st_alloc tok rfl) ?_ | refine ro (st_buildSlice tok rfl rfl rfl rfl rfl rfl rfl) ?_); rintro _ _ _ ⟨_, rfl, rfl, rfl⟩))
      refine run_cond rfl (fun h => ?_) (fun h => ?_)
      · have hi4 : i < 4 := by
          have := of_decide_eq_true h
          omega
        have hi5 : i = 0 ∨ i = 1 ∨ i = 2 ∨ i = 3 := by omega
        rcases hi5 with rfl | rfl | rfl | rfl
        · repeat (first | with_reducible (first | refine cS ?_ | refine cR ?_ | refine cN ?_ | refine cK ?_ | refine cB ?_ | refine cI ?_) | refine cE rfl ?_ | refine rq (qt_pev tok rfl) ?_ | refine rg rfl rfl (qt_pev tok rfl) ?_ | refine rq (ql tok rfl) ?_ | refine rg rfl rfl (ql tok rfl) ?_ | (refine runL_op0 (sst tok rfl rfl rfl rfl rfl) ?_; rintro _ _ _ ⟨rfl, rfl, rfl⟩) | ((first | refine ro (st_box rfl) ?_ | refine ro (st_alloc tok rfl) ?_ | refine ro (st_buildSlice tok rfl rfl rfl rfl rfl rfl rfl) ?_); rintro _ _ _ ⟨_, rfl, rfl, rfl⟩) | refine runL_q (qt_indexN tok rfl rfl rfl rfl (fun _ => by omega)) rfl rfl rfl ?_ | refine runL_g rfl rfl (qt_indexN tok rfl rfl rfl rfl (fun _ => by omega)) rfl rfl rfl rfl rfl ?_ | refine runL_q (qt_ldM tok rfl hq4 rfl) rfl rfl rfl ?_ | refine runL_g rfl rfl (qt_ldM tok rfl hq4 rfl) rfl rfl rfl rfl rfl ?_ | refine runL_q (qt_ldM0 tok rfl hq4 rfl) rfl rfl rfl ?_ | refine runL_g rfl rfl (qt_ldM0 tok rfl hq4 rfl) rfl rfl rfl rfl rfl ?_)
          refine runL_rnumI (most := 2147483647) (cs := (pre ++ (mdC d x0 x1 x2 x3 ⟨#[]⟩ (.slice none 0 0) ++ post))) rfl rfl (List.Perm.refl _) (fun v => (pre ++ (mdC d v x1 x2 x3 ⟨#[]⟩ (.slice none 0 0) ++ post))) (fun v => hst _ _ _ 1 rfl) (by decide) (by omega) rfl rfl rfl (fun hp => ?_) (fun v9 s9 hp9 => ?_)
          · rw [hpj, r0 rfl, pQ0, hp] at hC
            exact runX_pan hC (fun _ h => h.drop.drop.drop.drop.drop) (rgK_none a' hM13)
          have z9 := pN_sz hp9
          have hRn := r0 rfl
          rw [pQ0, hp9, Option.bind_some] at hRn
          repeat (first | with_reducible (first | refine cS ?_ | refine cR ?_ | refine cN ?_ | refine cK ?_ | refine cB ?_ | refine cI ?_) | refine cE rfl ?_ | refine rq (qt_pev tok rfl) ?_ | refine rg rfl rfl (qt_pev tok rfl) ?_ | refine rq (ql tok rfl) ?_ | refine rg rfl rfl (ql tok rfl) ?_ | (refine runL_op0 (sst tok rfl rfl rfl rfl rfl) ?_; rintro _ _ _ ⟨rfl, rfl, rfl⟩) | ((first | refine ro (st_box rfl) ?_ | refine ro (st_alloc tok rfl) ?_ | refine ro (st_buildSlice tok rfl rfl rfl rfl rfl rfl rfl) ?_); rintro _ _ _ ⟨_, rfl, rfl, rfl⟩))
          exact run_sub' (hnx _ _ _ ⟨by omega, rfl, v9, x1, x2, x3, s9, by omega, rfl, (fun h => by omega), (fun _ => hRn), (fun h => by omega), (fun h => by omega), (fun h => by omega), rfl⟩) ⟨lk_succ rfl (by omega), rfl, rfl, rfl, rfl, rfl, rfl, trivial⟩
        · repeat (first | with_reducible (first | refine cS ?_ | refine cR ?_ | refine cN ?_ | refine cK ?_ | refine cB ?_ | refine cI ?_) | refine cE rfl ?_ | refine rq (qt_pev tok rfl) ?_ | refine rg rfl rfl (qt_pev tok rfl) ?_ | refine rq (ql tok rfl) ?_ | refine rg rfl rfl (ql tok rfl) ?_ | (refine runL_op0 (sst tok rfl rfl rfl rfl rfl) ?_; rintro _ _ _ ⟨rfl, rfl, rfl⟩) | ((first | refine ro (st_box rfl) ?_ | refine ro (st_alloc tok rfl) ?_ | refine ro (st_buildSlice tok rfl rfl rfl rfl rfl rfl rfl) ?_); rintro _ _ _ ⟨_, rfl, rfl, rfl⟩) | refine runL_q (qt_indexN tok rfl rfl rfl rfl (fun _ => by omega)) rfl rfl rfl ?_ | refine runL_g rfl rfl (qt_indexN tok rfl rfl rfl rfl (fun _ => by omega)) rfl rfl rfl rfl rfl ?_ | refine runL_q (qt_ldM tok rfl hq4 rfl) rfl rfl rfl ?_ | refine runL_g rfl rfl (qt_ldM tok rfl hq4 rfl) rfl rfl rfl rfl rfl ?_ | refine runL_q (qt_ldM0 tok rfl hq4 rfl) rfl rfl rfl ?_ | refine runL_g rfl rfl (qt_ldM0 tok rfl hq4 rfl) rfl rfl rfl rfl rfl ?_)
          refine runL_rnumI (most := 2147483647) (cs := (pre ++ (mdC d x0 x1 x2 x3 ⟨#[]⟩ (.slice none 0 0) ++ post))) rfl rfl (List.Perm.refl _) (fun v => (pre ++ (mdC d x0 v x2 x3 ⟨#[]⟩ (.slice none 0 0) ++ post))) (fun v => hst _ _ _ 2 rfl) (by decide) (by omega) rfl rfl rfl (fun hp => ?_) (fun v9 s9 hp9 => ?_)
          · rw [hpj, r1 rfl, pQ1, hp] at hC
            exact runX_pan hC (fun _ h => h.drop.drop.drop.drop.drop) (rgK_none a' hM13)
          have z9 := pN_sz hp9
          have hRn := r1 rfl
          rw [pQ1, hp9, Option.bind_some] at hRn
          repeat (first | with_reducible (first | refine cS ?_ | refine cR ?_ | refine cN ?_ | refine cK ?_ | refine cB ?_ | refine cI ?_) | refine cE rfl ?_ | refine rq (qt_pev tok rfl) ?_ | refine rg rfl rfl (qt_pev tok rfl) ?_ | refine rq (ql tok rfl) ?_ | refine rg rfl rfl (ql tok rfl) ?_ | (refine runL_op0 (sst tok rfl rfl rfl rfl rfl) ?_; rintro _ _ _ ⟨rfl, rfl, rfl⟩) | ((first | refine ro (st_box rfl) ?_ | refine ro (st_alloc tok rfl) ?_ | refine ro (st_buildSlice tok rfl rfl rfl rfl rfl rfl rfl) ?_); rintro _ _ _ ⟨_, rfl, rfl, rfl⟩))
          exact run_sub' (hnx _ _ _ ⟨by omega, rfl, x0, v9, x2, x3, s9, by omega, rfl, (fun h => by omega), (fun h => by omega), (fun _ => hRn), (fun h => by omega), (fun h => by omega), rfl⟩) ⟨lk_succ rfl (by omega), rfl, rfl, rfl, rfl, rfl, rfl, trivial⟩
        · repeat (first | with_reducible (first | refine cS ?_ | refine cR ?_ | refine cN ?_ | refine cK ?_ | refine cB ?_ | refine cI ?_) | refine cE rfl ?_ | refine rq (qt_pev tok rfl) ?_ | refine rg rfl rfl (qt_pev tok rfl) ?_ | refine rq (ql tok rfl) ?_ | refine rg rfl rfl (ql tok rfl) ?_ | (refine runL_op0 (sst tok rfl rfl rfl rfl rfl) ?_; rintro _ _ _ ⟨rfl, rfl, rfl⟩) | ((first | refine ro (st_box rfl) ?_ | refine ro (st_alloc tok rfl) ?_ | refine ro (st_buildSlice tok rfl rfl rfl rfl rfl rfl rfl) ?_); rintro _ _ _ ⟨_, rfl, rfl, rfl⟩) | refine runL_q (qt_indexN tok rfl rfl rfl rfl (fun _ => by omega)) rfl rfl rfl ?_ | refine runL_g rfl rfl (qt_indexN tok rfl rfl rfl rfl (fun _ => by omega)) rfl rfl rfl rfl rfl ?_ | refine runL_q (qt_ldM tok rfl hq4 rfl) rfl rfl rfl ?_ | refine runL_g rfl rfl (qt_ldM tok rfl hq4 rfl) rfl rfl rfl rfl rfl ?_ | refine runL_q (qt_ldM0 tok rfl hq4 rfl) rfl rfl rfl ?_ | refine runL_g rfl rfl (qt_ldM0 tok rfl hq4 rfl) rfl rfl rfl rfl rfl ?_)
          refine runL_rnumI (most := 2147483647) (cs := (pre ++ (mdC d x0 x1 x2 x3 ⟨#[]⟩ (.slice none 0 0) ++ post))) rfl rfl (List.Perm.refl _) (fun v => (pre ++ (mdC d x0 x1 v x3 ⟨#[]⟩ (.slice none 0 0) ++ post))) (fun v => hst _ _ _ 3 rfl) (by decide) (by omega) rfl rfl rfl (fun hp => ?_) (fun v9 s9 hp9 => ?_)
          · rw [hpj, r2 rfl, pQ2, hp] at hC
            exact runX_pan hC (fun _ h => h.drop.drop.drop.drop.drop) (rgK_none a' hM13)
          have z9 := pN_sz hp9
          have hRn := r2 rfl
          rw [pQ2, hp9, Option.bind_some] at hRn
          repeat (first | with_reducible (first | refine cS ?_ | refine cR ?_ | refine cN ?_ | refine cK ?_ | refine cB ?_ | refine cI ?_) | refine cE rfl ?_ | refine rq (qt_pev tok rfl) ?_ | refine rg rfl rfl (qt_pev tok rfl) ?_ | refine rq (ql tok rfl) ?_ | refine rg rfl rfl (ql tok rfl) ?_ | (refine runL_op0 (sst tok rfl rfl rfl rfl rfl) ?_; rintro _ _ _ ⟨rfl, rfl, rfl⟩) | ((first | refine ro (st_box rfl) ?_ | refine ro (st_alloc tok rfl) ?_ | refine ro (st_buildSlice tok rfl rfl rfl rfl rfl rfl rfl) ?_); rintro _ _ _ ⟨_, rfl, rfl, rfl⟩))
          exact run_sub' (hnx _ _ _ ⟨by omega, rfl, x0, x1, v9, x3, s9, by omega, rfl, (fun h => by omega), (fun h => by omega), (fun h => by omega), (fun _ => hRn), (fun h => by omega), rfl⟩) ⟨lk_succ rfl (by omega), rfl, rfl, rfl, rfl, rfl, rfl, trivial⟩
        · repeat (first | with_reducible (first | refine cS ?_ | refine cR ?_ | refine cN ?_ | refine cK ?_ | refine cB ?_ | refine cI ?_) | refine cE rfl ?_ | refine rq (qt_pev tok rfl) ?_ | refine rg rfl rfl (qt_pev tok rfl) ?_ | refine rq (ql tok rfl) ?_ | refine rg rfl rfl (ql tok rfl) ?_ | (refine runL_op0 (sst tok rfl rfl rfl rfl rfl) ?_; rintro _ _ _ ⟨rfl, rfl, rfl⟩) | ((first | refine ro (st_box rfl) ?_ | refine ro (st_alloc tok rfl) ?_ | refine ro (st_buildSlice tok rfl rfl rfl rfl rfl rfl rfl) ?_); rintro _ _ _ ⟨_, rfl, rfl, rfl⟩) | refine runL_q (qt_indexN tok rfl rfl rfl rfl (fun _ => by omega)) rfl rfl rfl ?_ | refine runL_g rfl rfl (qt_indexN tok rfl rfl rfl rfl (fun _ => by omega)) rfl rfl rfl rfl rfl ?_ | refine runL_q (qt_ldM tok rfl hq4 rfl) rfl rfl rfl ?_ | refine runL_g rfl rfl (qt_ldM tok rfl hq4 rfl) rfl rfl rfl rfl rfl ?_ | refine runL_q (qt_ldM0 tok rfl hq4 rfl) rfl rfl rfl ?_ | refine runL_g rfl rfl (qt_ldM0 tok rfl hq4 rfl) rfl rfl rfl rfl rfl ?_)
          refine runL_rnumI (most := 2147483647) (cs := (pre ++ (mdC d x0 x1 x2 x3 ⟨#[]⟩ (.slice none 0 0) ++ post))) rfl rfl (List.Perm.refl _) (fun v => (pre ++ (mdC d x0 x1 x2 v ⟨#[]⟩ (.slice none 0 0) ++ post))) (fun v => hst _ _ _ 4 rfl) (by decide) (by omega) rfl rfl rfl (fun hp => ?_) (fun v9 s9 hp9 => ?_)
          · rw [hpj, r3 rfl, pQ3, hp] at hC
            exact runX_pan hC (fun _ h => h.drop.drop.drop.drop.drop) (rgK_none a' hM13)
          have z9 := pN_sz hp9
          have hRn := r3 rfl
          rw [pQ3, hp9, Option.bind_some] at hRn
          repeat (first | with_reducible (first | refine cS ?_ | refine cR ?_ | refine cN ?_ | refine cK ?_ | refine cB ?_ | refine cI ?_) | refine cE rfl ?_ | refine rq (qt_pev tok rfl) ?_ | refine rg rfl rfl (qt_pev tok rfl) ?_ | refine rq (ql tok rfl) ?_ | refine rg rfl rfl (ql tok rfl) ?_ | (refine runL_op0 (sst tok rfl rfl rfl rfl rfl) ?_; rintro _ _ _ ⟨rfl, rfl, rfl⟩) | ((first | refine ro (st_box rfl) ?_ | refine ro (st_alloc tok rfl) ?_ | refine ro (st_buildSlice tok rfl rfl rfl rfl rfl rfl rfl) ?_); rintro _ _ _ ⟨_, rfl, rfl, rfl⟩))
          exact run_sub' (hnx _ _ _ ⟨by omega, rfl, x0, x1, x2, v9, s9, by omega, rfl, (fun h => by omega), (fun h => by omega), (fun h => by omega), (fun h => by omega), (fun _ => hRn), rfl⟩) ⟨lk_succ rfl (by omega), rfl, rfl, rfl, rfl, rfl, rfl, trivial⟩
      have hi4 : i = 4 := by
        have := of_decide_eq_false h
        omega
      subst hi4
      clear hnx
      have hR4 := r4 rfl
      clear r0 r1 r2 r3 r4
      refine run_exit rfl ?_
      repeat (first | with_reducible (first | refine cS ?_ | refine cR ?_ | refine cN ?_ | refine cK ?_ | refine cB ?_ | refine cI ?_) | refine cE rfl ?_ | refine rq (qt_pev tok rfl) ?_ | refine rg rfl rfl (qt_pev tok rfl) ?_ | refine rq (ql tok rfl) ?_ | refine rg rfl rfl (ql tok rfl) ?_ | (refine runL_op0 (sst tok rfl rfl rfl rfl rfl) ?_; rintro _ _ _ ⟨rfl, rfl, rfl⟩) | ((first | refine ro (st_box rfl) ?_ | refine ro (st_alloc tok rfl) ?_ | refine ro (st_buildSlice tok rfl rfl rfl rfl rfl rfl rfl) ?_); rintro _ _ _ ⟨_, rfl, rfl, rfl⟩) | refine prn_start mixed ?_ | refine prn_end (by decide +kernel) ?_ | refine pq rfl (qt_pev tok rfl) ?_ | refine pg rfl rfl rfl (qt_pev tok rfl) ?_ | refine pq rfl (ql tok rfl) ?_ | refine pg rfl rfl rfl (ql tok rfl) ?_ | (refine prn_e0 rfl (sst tok rfl rfl rfl rfl rfl) (by decide +kernel) ?_; rintro _ _ _ ⟨rfl, rfl, rfl⟩) | ((first | refine pe rfl (st_box rfl) ?_ | refine pe rfl (st_alloc tok rfl) ?_ | refine pe rfl (st_buildSlice tok rfl rfl rfl rfl rfl rfl rfl) ?_); rintro _ _ _ ⟨_, rfl, rfl, rfl⟩) | (refine prn_o0 rfl (sst tok rfl rfl rfl rfl rfl) (by decide +kernel) ?_; rintro _ _ _ ⟨rfl, rfl, rfl⟩; refine ⟨by (repeat (first | exact trivial | refine And.intro (pend_q rfl rfl rfl (qt_pev tok rfl)) ?_ | refine And.intro (pend_q rfl rfl rfl (ql tok rfl)) ?_)), ?_⟩) | ((first | refine po rfl (st_box rfl) ?_ | refine po rfl (st_alloc tok rfl) ?_ | refine po rfl (st_buildSlice tok rfl rfl rfl rfl rfl rfl rfl) ?_); rintro _ _ _ ⟨_, rfl, rfl, rfl⟩; refine ⟨by (repeat (first | exact trivial | refine And.intro (pend_q rfl rfl rfl (qt_pev tok rfl)) ?_ | refine And.intro (pend_q rfl rfl rfl (ql tok rfl)) ?_)), ?_⟩) | (refine pe rfl (qt_pev tok rfl) ?_; rintro _ _ _ ⟨rfl, rfl, rfl⟩) | refine prn_q rfl (qt_nilIface rfl) (by decide +kernel) rfl rfl rfl ?_)
      refine prn_rtextI (most := 1024) (cs := (pre ++ (mdC d x0 x1 x2 x3 ⟨#[]⟩ (.slice none 0 0) ++ post))) rfl (by decide +kernel) rfl rfl (List.Perm.refl _) (fun v => (pre ++ (mdC d x0 x1 x2 x3 v (.slice none 0 0) ++ post))) (fun v => hst _ _ _ 5 rfl) (by decide) (by omega) rfl rfl rfl (fun hp => ?_) (fun t s5 hp5 => ?_)
      · rw [hpj, hR4, pTl, hp] at hC
        exact runX_pan hC (fun _ h => h.drop.drop.drop.drop.drop) (rgK_none a' hM13)
      have z5 := pTm_sz hp5
      have zt := (pTm_back hp5).1
      rw [pTl, hp5, Option.bind_some] at hR4
      refine ⟨by (repeat (first | exact trivial | refine And.intro (pend_q rfl rfl rfl (qt_pev tok rfl)) ?_ | refine And.intro (pend_q rfl rfl rfl (ql tok rfl)) ?_)), ?_⟩
      repeat (first | with_reducible (first | refine cS ?_ | refine cR ?_ | refine cN ?_ | refine cK ?_ | refine cB ?_ | refine cI ?_) | refine cE rfl ?_ | refine rq (qt_pev tok rfl) ?_ | refine rg rfl rfl (qt_pev tok rfl) ?_ | refine rq (ql tok rfl) ?_ | refine rg rfl rfl (ql tok rfl) ?_ | (refine runL_op0 (sst tok rfl rfl rfl rfl rfl) ?_; rintro _ _ _ ⟨rfl, rfl, rfl⟩) | ((first | refine ro (st_box rfl) ?_ | refine ro (st_alloc tok rfl) ?_ | refine ro (st_buildSlice tok rfl rfl rfl rfl rfl rfl rfl) ?_); rintro _ _ _ ⟨_, rfl, rfl, rfl⟩) | refine prn_start mixed ?_ | refine prn_end (by decide +kernel) ?_ | refine pq rfl (qt_pev tok rfl) ?_ | refine pg rfl rfl rfl (qt_pev tok rfl) ?_ | refine pq rfl (ql tok rfl) ?_ | refine pg rfl rfl rfl (ql tok rfl) ?_ | (refine prn_e0 rfl (sst tok rfl rfl rfl rfl rfl) (by decide +kernel) ?_; rintro _ _ _ ⟨rfl, rfl, rfl⟩) | ((first | refine pe rfl (st_box rfl) ?_ | refine pe rfl (st_alloc tok rfl) ?_ | refine pe rfl (st_buildSlice tok rfl rfl rfl rfl rfl rfl rfl) ?_); rintro _ _ _ ⟨_, rfl, rfl, rfl⟩) | (refine prn_o0 rfl (sst tok rfl rfl rfl rfl rfl) (by decide +kernel) ?_; rintro _ _ _ ⟨rfl, rfl, rfl⟩; refine ⟨by (repeat (first | exact trivial | refine And.intro (pend_q rfl rfl rfl (qt_pev tok rfl)) ?_ | refine And.intro (pend_q rfl rfl rfl (ql tok rfl)) ?_)), ?_⟩) | ((first | refine po rfl (st_box rfl) ?_ | refine po rfl (st_alloc tok rfl) ?_ | refine po rfl (st_buildSlice tok rfl rfl rfl rfl rfl rfl rfl) ?_); rintro _ _ _ ⟨_, rfl, rfl, rfl⟩; refine ⟨by (repeat (first | exact trivial | refine And.intro (pend_q rfl rfl rfl (qt_pev tok rfl)) ?_ | refine And.intro (pend_q rfl rfl rfl (ql tok rfl)) ?_)), ?_⟩) | (refine pe rfl (qt_pev tok rfl) ?_; rintro _ _ _ ⟨rfl, rfl, rfl⟩) | refine prn_q rfl (qt_ldB (k := 6) tok rfl (hseg (mdC d x0 x1 x2 x3 t (.slice none 0 0))) (by (repeat (first | with_reducible apply List.mem_cons_self | with_reducible assumption | with_reducible apply List.mem_cons_of_mem | with_reducible apply List.mem_append_right))) rfl) (by decide +kernel) rfl rfl rfl ?_)
      refine pr_q 8 (by decide +kernel) rfl (qt_pev tok rfl) rfl rfl rfl ?_
      refine pr_callE 7 (by decide +kernel) rfl rfl (rrows_ok M3 (obB b (pre ++ (mdC d x0 x1 x2 x3 t (.slice none 0 0) ++ post)) 51 :: obB b4 [.int .i64 d] 3 :: obB b3 [.pointer (some ⟨b, 0 + j * 7, none⟩)] 110 :: obB bf (fmC ba rT br) 78 :: axB ba a' :: L) ba br s5 ((0 : Nat) : Int) 32 66 (.pointer (some ⟨b3, 0, none⟩)) (fun c2 bl => obB bl ((List.replicate c2 [Value.int .i64 0]).flatten) 3 :: obB b3 [.pointer (some ⟨b, 0 + j * 7, none⟩)] 110 :: obB b (pre ++ (mdC d x0 x1 x2 x3 t (.slice (some ⟨bl, 0, none⟩) c2 c2) ++ post)) 51 :: obB b4 [.int .i64 d] 3 :: obB bf (fmC ba rT br) 78 :: axB ba a' :: L) (by decide) (by omega) ?_) rfl rfl rfl ?_ ?_
      · intro c2 N hc2
        refine trCons (trPerm (L' := obB b3 [.pointer (some ⟨b, 0 + j * 7, none⟩)] 110 :: obB b (pre ++ (mdC d x0 x1 x2 x3 t (.slice none 0 0) ++ post)) 51 :: (obB b4 [.int .i64 d] 3 :: (N ++ obB bf (fmC ba rT br) 78 :: axB ba a' :: L))) ?_ (steps2_b M3 (obB b4 [.int .i64 d] 3 :: (N ++ obB bf (fmC ba rT br) 78 :: axB ba a' :: L)) b b3 (0 + j * 7) (pre ++ (mdC d x0 x1 x2 x3 t (.slice none 0 0) ++ post)) (fun v => (pre ++ (mdC d x0 x1 x2 x3 t v ++ post))) (fun v => hst _ _ _ 6 rfl) c2 (by omega))) ?_
        · exact (pmid3 _ _ _ _ _).trans (p3 _ _ _ _)
        · rintro v M' _ ⟨rfl, rfl, bl, rfl⟩
          exact ⟨_, fun w h => h.perm (pmid4 _ _ _ _ _ _).symm, rfl, rfl, bl, rfl⟩
      rotate_left
      · intro ch _ _ h
        obtain ⟨hp, rfl, hMM, rfl⟩ := rowK_pan h
        rw [hpj, hR4, hp] at hC
        refine runX_pan hC (fun _ h => h.drop.drop.drop.drop.drop) (rgK_none a' ?_)
        rw [hMM]; exact hM13
      intro v M4 _ h
      obtain ⟨c2, bl, s6, hp6, hc2, rfl, hMM, rfl⟩ := rowK_ret h
      subst hMM
      clear h
      have z6 := pN_sz hp6
      rw [hp6, Option.bind_some, Int.toNat_natCast] at hR4
      refine ⟨by (repeat (first | exact trivial | refine And.intro (pend_q rfl rfl rfl (qt_pev tok rfl)) ?_ | refine And.intro (pend_q rfl rfl rfl (ql tok rfl)) ?_)), ?_⟩
      refine pr_end (by decide +kernel) (by decide +kernel) ?_
      refine run_block ?_
      refine run_loopN (fun i σ1 M5 L1 => i ≤ c2 ∧ M4 = M5 ∧ ∃ (ys : List Int) (S : ByteArray), ys.length = i ∧ (pNs c2 s6 = (pNs (c2 - i) S).bind fun z => some (ys ++ z.1, z.2)) ∧ S.size ≤ s.size ∧ L1 = rcB br S :: obB bl (rwC inC [Value.int .i64 0] ys (c2 - i)) 3 :: obB b3 [.pointer (some ⟨b, 0 + j * 7, none⟩)] 110 :: obB b (pre ++ (mdC d x0 x1 x2 x3 t (.slice (some ⟨bl, 0, none⟩) c2 c2) ++ post)) 51 :: obB b4 [.int .i64 d] 3 :: obB bf (fmC ba rT br) 78 :: axB ba a' :: L ∧ σ1 = [(79, .int .i64 (i : Int)), (78, .int .i64 (c2 : Int)), (3, .pointer (some ⟨b3, 0, none⟩)), (17, .int .i64 (j : Int)), (16, .int .i64 (c : Int)), (1, .pointer (some ⟨bf, 0, none⟩))]) c2 [(79, .int .i64 ((0 : Nat) : Int)), (78, .int .i64 (c2 : Int)), (3, .pointer (some ⟨b3, 0, none⟩)), (17, .int .i64 (j : Int)), (16, .int .i64 (c : Int)), (1, .pointer (some ⟨bf, 0, none⟩))] ?_ ⟨Nat.zero_le _, rfl, [], s6, rfl, by rw [Nat.sub_zero]; cases pNs c2 s6 <;> rfl, by omega, rfl, rfl⟩ (fun j _ _ _ h => h.1) ?_
      · exact ⟨rfl, rfl, rfl, rfl, rfl, rfl, trivial⟩
      rintro i _ _ _ ⟨hi2, rfl, ys, S6, hyl, hpi, hS6, rfl, rfl⟩ hnx
      repeat (first | with_reducible (first | refine cS ?_ | refine cR ?_ | refine cN ?_ | refine cK ?_ | refine cB ?_ | refine cI ?_) | refine cE rfl ?_ | refine rq (qt_pev tok rfl) ?_ | refine rg rfl rfl (qt_pev tok rfl) ?_ | refine rq (ql tok rfl) ?_ | refine rg rfl rfl (ql tok rfl) ?_ | (refine runL_op0 (sst tok rfl rfl rfl rfl rfl) ?_; rintro _ _ _ ⟨rfl, rfl, rfl⟩) | ((first | refine ro (st_box rfl) ?_ | refine ro (st_alloc tok rfl) ?_ | refine ro (st_buildSlice tok rfl rfl rfl rfl rfl rfl rfl) ?_); rintro _ _ _ ⟨_, rfl, rfl, rfl⟩))
      refine run_cond rfl (fun h => ?_) (fun h => ?_)
      · have hlt2 : i < c2 := by simpa using h
        have hc3 : c2 - i = (c2 - (i + 1)) + 1 := by omega
        rw [hc3, pNs] at hpi
        rw [hc3, rwC_succ]
        repeat (first | with_reducible (first | refine cS ?_ | refine cR ?_ | refine cN ?_ | refine cK ?_ | refine cB ?_ | refine cI ?_) | refine cE rfl ?_ | refine rq (qt_pev tok rfl) ?_ | refine rg rfl rfl (qt_pev tok rfl) ?_ | refine rq (ql tok rfl) ?_ | refine rg rfl rfl (ql tok rfl) ?_ | (refine runL_op0 (sst tok rfl rfl rfl rfl rfl) ?_; rintro _ _ _ ⟨rfl, rfl, rfl⟩) | ((first | refine ro (st_box rfl) ?_ | refine ro (st_alloc tok rfl) ?_ | refine ro (st_buildSlice tok rfl rfl rfl rfl rfl rfl rfl) ?_); rintro _ _ _ ⟨_, rfl, rfl, rfl⟩))
        repeat (first | with_reducible (first | refine cS ?_ | refine cR ?_ | refine cN ?_ | refine cK ?_ | refine cB ?_ | refine cI ?_) | refine cE rfl ?_ | refine rq (qt_pev tok rfl) ?_ | refine rg rfl rfl (qt_pev tok rfl) ?_ | refine rq (ql tok rfl) ?_ | refine rg rfl rfl (ql tok rfl) ?_ | (refine runL_op0 (sst tok rfl rfl rfl rfl rfl) ?_; rintro _ _ _ ⟨rfl, rfl, rfl⟩) | ((first | refine ro (st_box rfl) ?_ | refine ro (st_alloc tok rfl) ?_ | refine ro (st_buildSlice tok rfl rfl rfl rfl rfl rfl rfl) ?_); rintro _ _ _ ⟨_, rfl, rfl, rfl⟩) | refine prn_start mixed ?_ | refine prn_end (by decide +kernel) ?_ | refine pq rfl (qt_pev tok rfl) ?_ | refine pg rfl rfl rfl (qt_pev tok rfl) ?_ | refine pq rfl (ql tok rfl) ?_ | refine pg rfl rfl rfl (ql tok rfl) ?_ | (refine prn_e0 rfl (sst tok rfl rfl rfl rfl rfl) (by decide +kernel) ?_; rintro _ _ _ ⟨rfl, rfl, rfl⟩) | ((first | refine pe rfl (st_box rfl) ?_ | refine pe rfl (st_alloc tok rfl) ?_ | refine pe rfl (st_buildSlice tok rfl rfl rfl rfl rfl rfl rfl) ?_); rintro _ _ _ ⟨_, rfl, rfl, rfl⟩) | (refine prn_o0 rfl (sst tok rfl rfl rfl rfl rfl) (by decide +kernel) ?_; rintro _ _ _ ⟨rfl, rfl, rfl⟩; refine ⟨by (repeat (first | exact trivial | refine And.intro (pend_q rfl rfl rfl (qt_pev tok rfl)) ?_ | refine And.intro (pend_q rfl rfl rfl (ql tok rfl)) ?_)), ?_⟩) | ((first | refine po rfl (st_box rfl) ?_ | refine po rfl (st_alloc tok rfl) ?_ | refine po rfl (st_buildSlice tok rfl rfl rfl rfl rfl rfl rfl) ?_); rintro _ _ _ ⟨_, rfl, rfl, rfl⟩; refine ⟨by (repeat (first | exact trivial | refine And.intro (pend_q rfl rfl rfl (qt_pev tok rfl)) ?_ | refine And.intro (pend_q rfl rfl rfl (ql tok rfl)) ?_)), ?_⟩) | (refine pe rfl (qt_pev tok rfl) ?_; rintro _ _ _ ⟨rfl, rfl, rfl⟩) | refine prn_q rfl (qt_ldB (k := 6) tok rfl (hseg (mdC d x0 x1 x2 x3 t (.slice (some ⟨bl, 0, none⟩) c2 c2))) (by (repeat (first | with_reducible apply List.mem_cons_self | with_reducible assumption | with_reducible apply List.mem_cons_of_mem | with_reducible apply List.mem_append_right))) rfl) (by decide +kernel) rfl rfl rfl ?_ | refine prn_q rfl (qt_indexN tok rfl rfl rfl rfl (fun _ => by omega)) (by decide +kernel) rfl rfl rfl ?_ | refine prn_q rfl (qt_nilIface rfl) (by decide +kernel) rfl rfl rfl ?_)
        refine prn_rnumI (most := 2147483647) (cs := (ys.map inC).flatten ++ ([Value.int .i64 0] ++ (List.replicate (c2 - (i + 1)) [Value.int .i64 0]).flatten)) rfl (by decide +kernel) rfl rfl (List.Perm.refl _) (fun v => (ys.map inC).flatten ++ (inC v ++ (List.replicate (c2 - (i + 1)) [Value.int .i64 0]).flatten)) (fun v => rwC_set (k := 0) inC_len ys hyl rfl) (by decide) (by omega) rfl rfl rfl (fun hp => ?_) (fun v7 s7 hp7 => ?_)
        · rw [hpj, hR4, hpi, hp] at hC
          exact runX_pan hC (fun _ h => h.drop.drop.drop.drop.drop.drop) (rgK_none a' hM13)
        have z7 := pN_sz hp7
        rw [hp7, Option.bind_some] at hpi
        refine ⟨by (repeat (first | exact trivial | refine And.intro (pend_q rfl rfl rfl (qt_pev tok rfl)) ?_ | refine And.intro (pend_q rfl rfl rfl (ql tok rfl)) ?_)), ?_⟩
        repeat (first | with_reducible (first | refine cS ?_ | refine cR ?_ | refine cN ?_ | refine cK ?_ | refine cB ?_ | refine cI ?_) | refine cE rfl ?_ | refine rq (qt_pev tok rfl) ?_ | refine rg rfl rfl (qt_pev tok rfl) ?_ | refine rq (ql tok rfl) ?_ | refine rg rfl rfl (ql tok rfl) ?_ | (refine runL_op0 (sst tok rfl rfl rfl rfl rfl) ?_; rintro _ _ _ ⟨rfl, rfl, rfl⟩) | ((first | refine ro (st_box rfl) ?_ | refine ro (st_alloc tok rfl) ?_ | refine ro (st_buildSlice tok rfl rfl rfl rfl rfl rfl rfl) ?_); rintro _ _ _ ⟨_, rfl, rfl, rfl⟩) | refine prn_start mixed ?_ | refine prn_end (by decide +kernel) ?_ | refine pq rfl (qt_pev tok rfl) ?_ | refine pg rfl rfl rfl (qt_pev tok rfl) ?_ | refine pq rfl (ql tok rfl) ?_ | refine pg rfl rfl rfl (ql tok rfl) ?_ | (refine prn_e0 rfl (sst tok rfl rfl rfl rfl rfl) (by decide +kernel) ?_; rintro _ _ _ ⟨rfl, rfl, rfl⟩) | ((first | refine pe rfl (st_box rfl) ?_ | refine pe rfl (st_alloc tok rfl) ?_ | refine pe rfl (st_buildSlice tok rfl rfl rfl rfl rfl rfl rfl) ?_); rintro _ _ _ ⟨_, rfl, rfl, rfl⟩) | (refine prn_o0 rfl (sst tok rfl rfl rfl rfl rfl) (by decide +kernel) ?_; rintro _ _ _ ⟨rfl, rfl, rfl⟩; refine ⟨by (repeat (first | exact trivial | refine And.intro (pend_q rfl rfl rfl (qt_pev tok rfl)) ?_ | refine And.intro (pend_q rfl rfl rfl (ql tok rfl)) ?_)), ?_⟩) | ((first | refine po rfl (st_box rfl) ?_ | refine po rfl (st_alloc tok rfl) ?_ | refine po rfl (st_buildSlice tok rfl rfl rfl rfl rfl rfl rfl) ?_); rintro _ _ _ ⟨_, rfl, rfl, rfl⟩; refine ⟨by (repeat (first | exact trivial | refine And.intro (pend_q rfl rfl rfl (qt_pev tok rfl)) ?_ | refine And.intro (pend_q rfl rfl rfl (ql tok rfl)) ?_)), ?_⟩) | (refine pe rfl (qt_pev tok rfl) ?_; rintro _ _ _ ⟨rfl, rfl, rfl⟩))
        rw [← rwC_snoc]
        refine run_sub' (hnx _ _ _ ⟨hlt2, rfl, ys ++ [v7], s7, by simp [hyl], ?_, by omega, rfl, rfl⟩) ⟨lk_succ rfl (by omega), rfl, rfl, rfl, rfl, rfl, trivial⟩
        rw [hpi, Option.bind_assoc]
        simp
      have hge2 : i = c2 := by simp at h; omega
      clear hnx
      rw [hge2, Nat.sub_self, pNs, Option.bind_some, List.append_nil] at hpi
      rw [hpi, Option.bind_some] at hR4
      rw [hge2, Nat.sub_self, rwC, List.replicate_zero, List.flatten_nil, List.append_nil]
      repeat (first | with_reducible (first | refine cS ?_ | refine cR ?_ | refine cN ?_ | refine cK ?_ | refine cB ?_ | refine cI ?_) | refine cE rfl ?_ | refine rq (qt_pev tok rfl) ?_ | refine rg rfl rfl (qt_pev tok rfl) ?_ | refine rq (ql tok rfl) ?_ | refine rg rfl rfl (ql tok rfl) ?_ | (refine runL_op0 (sst tok rfl rfl rfl rfl rfl) ?_; rintro _ _ _ ⟨rfl, rfl, rfl⟩) | ((first | refine ro (st_box rfl) ?_ | refine ro (st_alloc tok rfl) ?_ | refine ro (st_buildSlice tok rfl rfl rfl rfl rfl rfl rfl) ?_); rintro _ _ _ ⟨_, rfl, rfl, rfl⟩))
      refine run_frz 1 rfl ?_
      intro M5 hM5 hb
      have hsl := SlZ.ofBlk hb rfl (in_all ys)
      rw [List.length_map, hyl, hge2] at hsl
      have hM15 := Mem.le_trans hM13 hM5
      refine run_mem (M' := M5) (L' := rcB br S6 :: obB b (pre ++ (mdC d x0 x1 x2 x3 t (.slice (some ⟨bl, 0, none⟩) c2 c2) ++ post)) 51 :: obB bf (fmC ba rT br) 78 :: axB ba a' :: L) (fun _ h => (h.drop2.perm (List.Perm.cons _ (List.Perm.swap _ _ _))).drop2) ?_
      have hrow : (pre ++ (mdC d x0 x1 x2 x3 t (.slice (some ⟨bl, 0, none⟩) c2 c2) ++ post)) = rwC srC zSp (xs ++ [⟨d, x0, x1, x2, x3, t, ⟨some ⟨bl, 0, none⟩, c2, c2, ys⟩⟩]) (c - (j + 1)) := by
        rw [rwC_snoc, hpre, hpost]; rfl
      rw [hrow]
      refine run_sub' (hnext _ _ _ ⟨hlt, hM15, xs ++ [⟨d, x0, x1, x2, x3, t, ⟨some ⟨bl, 0, none⟩, c2, c2, ys⟩⟩], S6, by simp [hxl], ?_, hS6, ?_, rfl, rfl⟩) ⟨lk_succ rfl (by omega), rfl, rfl, trivial⟩
      · rw [hpj, hR4, Option.bind_some, Option.bind_assoc]
        simp [Sr.sp]
      · intro x hx
        rcases List.mem_append.1 hx with hx | hx
        · exact (hd x hx).le (Mem.le_trans hM3 hM5)
        · rw [List.mem_singleton.1 hx]
          exact ⟨⟨hsl.m, by show c2 < _; omega⟩, by show t.size < _; omega⟩
    · have hge : j = c := by simp at h; omega
      rw [hge, Nat.sub_self, pSps, Option.bind_some, List.append_nil] at hpj
      rw [hpj, Option.bind_some] at hC
      rw [hge, Nat.sub_self, rwC, List.replicate_zero, List.flatten_nil, List.append_nil]
      repeat (first | with_reducible (first | refine cS ?_ | refine cR ?_ | refine cN ?_ | refine cK ?_ | refine cB ?_ | refine cI ?_) | refine cE rfl ?_ | refine rq (qt_pev tok rfl) ?_ | refine rg rfl rfl (qt_pev tok rfl) ?_ | refine rq (ql tok rfl) ?_ | refine rg rfl rfl (ql tok rfl) ?_ | (refine runL_op0 (sst tok rfl rfl rfl rfl rfl) ?_; rintro _ _ _ ⟨rfl, rfl, rfl⟩) | ((first | refine ro (st_box rfl) ?_ | refine ro (st_alloc tok rfl) ?_ | refine ro (st_buildSlice tok rfl rfl rfl rfl rfl rfl rfl) ?_); rintro _ _ _ ⟨_, rfl, rfl, rfl⟩))
      refine run_frz 1 rfl ?_
      intro M5 hM5 hb
      have hsl := SlZ.ofBlk hb rfl (sr_all xs)
      rw [List.length_map, hxl, hge] at hsl
      have hM15 := Mem.le_trans hM2 hM5
      subst ha'
      refine run_endX hro ?_
      refine runX_ret hC (rs := []) rfl (vs := []) trivial (fun _ h => h.drop2) (rgK_some (a := { a with steps := ⟨some ⟨b, 0, none⟩, c, c, xs⟩ }) hM15 ⟨hq.gives.le hM15, ⟨hsl, by show c < _; omega, fun x hx => (hd x hx).le hM5⟩, hq.pay⟩ rfl)
  · intro ch _ _ h
    obtain ⟨hp, rfl, rfl, rfl⟩ := rowK_pan h
    rw [sStp, pSteps, hp] at hC
    exact runX_pan hC (fun _ h => h.drop.drop) (rgK_none a (Mem.le_refl _))
end Go.Proofs.Ytbpgiodfccijmaa
namespace Go.Proofs.Ytbpgiodfccijmaa
open Go.Chi

/-! ### script.written, script.Encode -/
theorem partF_mem {k : Int} {f : Nat} (h : f ∈ partF k) : f = 46 ∨ f = 47 ∨ f = 48 ∨ f = 49 ∨ f = 50 ∨ f = 51 ∨ f = 52 := by
  unfold partF at h
  repeat' split at h
  all_goals simp only [List.mem_cons, List.not_mem_nil, or_false] at h
  all_goals omega
theorem partF_txn {a : Aa} (h : AcP a) (hf : 49 ∈ partF a.do_) : mayTx a.txn = true := by
  cases h <;> first | assumption | (dsimp only at hf; exact absurd hf (by decide))
theorem wmeth_ok {a : Ax} {M : Mem} (hw : AxW M a) (hp : AcP a.aa) {f : Nat} (hf : f ∈ partF a.do_) (M' : Mem) (L : HL) (ba bw : Nat) (s : ByteArray) (hM : M.le M') (hs : s.size < 1000000) : Tr Try.prog f [.agg ⟨fmC ba wT bw⟩] M' (wcB bw s :: axB ba a :: L) (wrK bw ba (s ++ wfm a.aa f) a M' L) := by
  have hw := hw.le hM
  have hsh := hw.short hp
  obtain ⟨g1, g2⟩ := gives_lim hp hsh
  obtain ⟨s1, s2⟩ := steps_lim hp
  obtain ⟨o1, o2, o3⟩ := org_lim hp
  have r1 : 0 ≤ a.org ∧ a.org ≤ 7 := org_r o1
  have r2 : 0 ≤ a.auditor ∧ a.auditor ≤ 7 := org_r o2
  have r3 : 0 ≤ a.n ∧ a.n ≤ 2147483647 := nm_r o3
  have hgl : a.gives.len ≤ 6 := by rw [← hw.gives.len]; exact g2
  have hsl : a.steps.len ≤ 64 := by rw [← hw.steps.ok.len]; have h : (a.steps.xs.map Sr.sp).length ≤ 64 := s2; simpa using h
  rcases partF_mem hf with rfl | rfl | rfl | rfl | rfl | rfl | rfl
  · rw [wfm_org]; exact worgF_ok M' L ba bw s a (by omega) (by omega)
  · rw [wfm_auditor]; exact wauditorF_ok M' L ba bw s a (by omega) (by omega)
  · rw [wfm_gives]; exact wgivesF_ok M' L ba bw s a hw.gives hgl (fun m hm => ⟨(g1 m hm).1, hw.pay m hm⟩) (by omega)
  · rw [wfm_txn]; exact wtxnF_ok M' L ba bw s a (partF_txn hp hf) (by omega)
  · rw [wfm_yes]; exact wyesF_ok M' L ba bw s a (by omega)
  · rw [wfm_n]; exact wnF_ok M' L ba bw s a (by omega) (by omega)
  · rw [wfm_steps]; exact wstepsF_ok M' L ba bw s a hw.steps hsl (fun x hx => s1 x.sp (List.mem_map_of_mem hx)) hs
theorem wfmL_take (a : Aa) (l : List Nat) (j : Nat) : (wfmL a (l.take j)).size ≤ (wfmL a l).size := by
  induction l generalizing j with
  | nil => rw [List.take_nil]; exact Nat.le_refl _
  | cons f l ih =>
    cases j with
    | zero => exact Nat.zero_le _
    | succ j => rw [List.take_succ_cons, wfmL, wfmL, app_size, app_size]; have := ih j; omega
theorem partF_len (k : Int) : (partF k).length ≤ 3 := by
  unfold partF
  repeat' split
  all_goals decide
set_option maxRecDepth 10000 in
set_option maxHeartbeats 16000000 in
theorem written_ok (M : Mem) (L : HL) (a : Ax) (hw : AxW M a) (hp : AcP a.aa) : Tr Try.prog 19 [.agg ⟨axC a⟩] M L (fun v M' L' => v = .string (actB a.aa) ∧ M.le M' ∧ L' = L) := by
  refine Tr.intro 28 Try.func19 rfl rfl Try.call19 rfl ?_
  intro C hC hro
  have hsh := hw.short hp
  have hlim := actB_lim hp hsh
  have hba := wfm_all hp
  have hsz := actB_size a.aa
  repeat (first | with_reducible (first | refine cS ?_ | refine cR ?_ | refine cN ?_ | refine cK ?_ | refine cB ?_ | refine cI ?_) | refine cE rfl ?_ | refine rq (qt_pev tok rfl) ?_ | refine rg rfl rfl (qt_pev tok rfl) ?_ | refine rq (ql tok rfl) ?_ | refine rg rfl rfl (ql tok rfl) ?_ | (refine runL_op0 (sst tok rfl rfl rfl rfl rfl) ?_; rintro _ _ _ ⟨rfl, rfl, rfl⟩) | ((first | refine ro (st_box rfl) ?_ | refine ro (st_alloc tok rfl) ?_ | refine ro (st_buildSlice tok rfl rfl rfl rfl rfl rfl rfl) ?_); rintro _ _ _ ⟨_, rfl, rfl, rfl⟩) | refine runL_q (qt_bytesStr tok [a.do_] rfl rfl rfl rfl (cellsAll List.mem_cons_self) rfl) rfl rfl rfl ?_ | refine runL_q (qt_makeIfaceC tok rfl rfl rfl) rfl rfl rfl ?_ | refine runL_op (st_callF rfl (fun _ => parts_ok _ _ _ _ _ a.do_ (axC a) (List.mem_cons_of_mem _ (List.mem_cons_of_mem _ List.mem_cons_self)) rfl)) rfl rfl rfl ?_; rintro _ M1 _ ⟨hM1, rfl, sa, c, rfl, hsl⟩)
  rename_i ba bk bw
  refine run_mem (M' := M1) (L' := wcB bw (bytesI [a.do_]) :: axB ba a :: L) (fun _ h => (h.perm (List.Perm.swap _ _ _)).drop) ?_
  refine run_loopN (fun j σ1 M2 L1 => j ≤ (partF a.do_).length ∧ M1.le M2 ∧ L1 = wcB bw (bytesI [a.do_] ++ wfmL a.aa ((partF a.do_).take j)) :: axB ba a :: L ∧ σ1 = [(17, .int .i64 (j : Int)), (16, .int .i64 ((partF a.do_).length : Int)), (15, .slice sa (partF a.do_).length c), (3, .pointer (some ⟨bw, 0, none⟩))]) (partF a.do_).length [(17, .int .i64 ((0 : Nat) : Int)), (16, .int .i64 ((partF a.do_).length : Int)), (15, .slice sa (partF a.do_).length c), (3, .pointer (some ⟨bw, 0, none⟩))] ?_ ⟨Nat.zero_le _, Mem.le_refl _, by rw [List.take_zero, wfmL, app_bz'], rfl⟩ (fun j _ _ _ h => h.1) ?_
  · exact ⟨rfl, rfl, rfl, rfl, trivial⟩
  rintro j _ M2 _ ⟨hj, hM2, rfl, rfl⟩ hnext
  have hl3 := partF_len a.do_
  have hzj : (bytesI [a.do_] ++ wfmL a.aa ((partF a.do_).take j)).size < 1000000 := by
    have h1 := wfmL_take a.aa (partF a.do_) j
    have h2 : wfmL a.aa (partF a.do_) = actBody a.aa := hba
    rw [h2] at h1
    rw [app_size, bytesI_one]
    omega
  repeat (first | with_reducible (first | refine cS ?_ | refine cR ?_ | refine cN ?_ | refine cK ?_ | refine cB ?_ | refine cI ?_) | refine cE rfl ?_ | refine rq (qt_pev tok rfl) ?_ | refine rg rfl rfl (qt_pev tok rfl) ?_ | refine rq (ql tok rfl) ?_ | refine rg rfl rfl (ql tok rfl) ?_ | (refine runL_op0 (sst tok rfl rfl rfl rfl rfl) ?_; rintro _ _ _ ⟨rfl, rfl, rfl⟩) | ((first | refine ro (st_box rfl) ?_ | refine ro (st_alloc tok rfl) ?_ | refine ro (st_buildSlice tok rfl rfl rfl rfl rfl rfl rfl) ?_); rintro _ _ _ ⟨_, rfl, rfl, rfl⟩))
  refine run_cond rfl (fun h => ?_) (fun h => ?_)
  · have hlt : j < (partF a.do_).length := by simpa using h
    obtain ⟨b, off, cl, rfl, hcl, _, hcells⟩ := (hsl.le hM2).at_ hlt
    obtain ⟨f, hf, rfl⟩ : ∃ f, (partF a.do_)[j]? = some f ∧ [fmV ba wT bw f] = cl := by simpa using hcl
    repeat (first | with_reducible (first | refine cS ?_ | refine cR ?_ | refine cN ?_ | refine cK ?_ | refine cB ?_ | refine cI ?_) | refine cE rfl ?_ | refine rq (qt_pev tok rfl) ?_ | refine rg rfl rfl (qt_pev tok rfl) ?_ | refine rq (ql tok rfl) ?_ | refine rg rfl rfl (ql tok rfl) ?_ | (refine runL_op0 (sst tok rfl rfl rfl rfl rfl) ?_; rintro _ _ _ ⟨rfl, rfl, rfl⟩) | ((first | refine ro (st_box rfl) ?_ | refine ro (st_alloc tok rfl) ?_ | refine ro (st_buildSlice tok rfl rfl rfl rfl rfl rfl rfl) ?_); rintro _ _ _ ⟨_, rfl, rfl, rfl⟩) | refine runL_q (qt_indexN tok rfl rfl rfl rfl (fun _ => by omega)) rfl rfl rfl ?_ | refine runL_g rfl rfl (qt_indexN tok rfl rfl rfl rfl (fun _ => by omega)) rfl rfl rfl rfl rfl ?_ | refine runL_q (qt_ldM tok rfl hcells rfl) rfl rfl rfl ?_ | refine runL_g rfl rfl (qt_ldM tok rfl hcells rfl) rfl rfl rfl rfl rfl ?_ | refine runL_q (qt_ldM0 tok rfl hcells rfl) rfl rfl rfl ?_ | refine runL_g rfl rfl (qt_ldM0 tok rfl hcells rfl) rfl rfl rfl rfl rfl ?_ | refine runL_op (st_callV rfl rfl (fun _ => wmeth_ok hw hp (List.mem_of_getElem? hf) M2 L ba bw _ (Mem.le_trans hM1 hM2) hzj)) rfl rfl rfl ?_; rintro _ M3 _ ⟨rfl, hM3, rfl⟩)
    refine run_sub' (hnext _ _ _ ⟨hlt, Mem.le_trans hM2 hM3, ?_, rfl⟩) ⟨lk_succ rfl (by omega), rfl, rfl, rfl, trivial⟩
    rw [take_snoc hf, wfmL_snoc, app_assoc]
  · have hge : j = (partF a.do_).length := by simp at h; omega
    subst hge
    rw [List.take_of_length_le (Nat.le_refl _)]
    have hba' : wfmL a.aa (partF a.do_) = actBody a.aa := hba
    rw [hba']
    have hrB : bytesI [a.do_] ++ actBody a.aa = actB a.aa := rfl
    rw [hrB]
    have hle : M.le M2 := Mem.le_trans hM1 hM2
    repeat (first | with_reducible (first | refine cS ?_ | refine cR ?_ | refine cN ?_ | refine cK ?_ | refine cB ?_ | refine cI ?_) | refine cE rfl ?_ | refine rq (qt_pev tok rfl) ?_ | refine rg rfl rfl (qt_pev tok rfl) ?_ | refine rq (ql tok rfl) ?_ | refine rg rfl rfl (ql tok rfl) ?_ | (refine runL_op0 (sst tok rfl rfl rfl rfl rfl) ?_; rintro _ _ _ ⟨rfl, rfl, rfl⟩) | ((first | refine ro (st_box rfl) ?_ | refine ro (st_alloc tok rfl) ?_ | refine ro (st_buildSlice tok rfl rfl rfl rfl rfl rfl rfl) ?_); rintro _ _ _ ⟨_, rfl, rfl, rfl⟩))
    exact run_ret hC (rs := [.tmp 2]) rfl (resT rfl resN) (fun _ h => h.drop.drop) ⟨rfl, hle, rfl⟩
/-- what script.Encode answers -/
def encR : List Ax → ByteArray → ByteArray × Int
  | [], s => (s, 0)
  | x :: l, s => if 65536 < (s ++ actB x.aa).size then (⟨#[]⟩, 5) else encR l (s ++ actB x.aa)
def chkL : List Ax → Int
  | [] => 0
  | x :: l => if chkA x = 0 then chkL l else chkA x
def encA (l : List Ax) : ByteArray × Int := if chkL l = 0 then encR l bz else (⟨#[]⟩, chkL l)
structure SaW (M : Mem) (s : SAx) : Prop where
  sl : SlM M 10 s.a s.len (s.xs.map axC)
  lt : s.len < 1000000
  each : ∀ x ∈ s.xs, AxW M x
theorem SaW.le {M M' : Mem} {s : SAx} (hm : M.le M') (h : SaW M s) : SaW M' s := ⟨h.sl.le hm, h.lt, fun x hx => (h.each x hx).le hm⟩
theorem SaW.ok {M : Mem} {s : SAx} (h : SaW M s) : SaOk M s := ⟨h.sl, h.lt, fun x hx => (h.each x hx).ok⟩
theorem chkL_drop {l : List Ax} {j : Nat} {x : Ax} (h : l[j]? = some x) (h0 : ∀ y ∈ l.take j, chkA y = 0) : chkL l = chkL (l.drop j) ∧ l.drop j = x :: l.drop (j + 1) := by
  refine ⟨?_, ?_⟩
  · induction l generalizing j with
    | nil => simp
    | cons y l ih =>
      cases j with
      | zero => rfl
      | succ j =>
        rw [List.drop_succ_cons, chkL, if_pos (h0 y (by simp))]
        exact ih (by simpa using h) (fun z hz => h0 z (by simp [hz]))
  · obtain ⟨hlt, hx⟩ := List.getElem?_eq_some_iff.1 h
    rw [List.drop_eq_getElem_cons hlt, hx]
theorem chkL_all {l : List Ax} (h : ∀ y ∈ l, chkA y = 0) : chkL l = 0 := by
  induction l with
  | nil => rfl
  | cons y l ih => rw [chkL, if_pos (h y List.mem_cons_self)]; exact ih fun z hz => h z (List.mem_cons_of_mem _ hz)
set_option maxRecDepth 10000 in
set_option maxHeartbeats 16000000 in
theorem sencode_ok (M : Mem) (L : HL) (s : SAx) (hs : SaW M s) : Tr Try.prog 10 [s.v] M L (fun v M' L' => v = .tuple ⟨[.string (encA s.xs).1, .int .i64 (encA s.xs).2]⟩ ∧ M.le M' ∧ L' = L) := by
  have hlen := hs.ok.len
  have hlt0 := hs.lt
  obtain ⟨sa, len, cap, xs⟩ := s
  simp only [SAx.v] at *
  refine Tr.intro 37 Try.func10 rfl rfl Try.call10 rfl ?_
  intro C hC hro
  repeat (first | with_reducible (first | refine cS ?_ | refine cR ?_ | refine cN ?_ | refine cK ?_ | refine cB ?_ | refine cI ?_) | refine cE rfl ?_ | refine rq (qt_pev tok rfl) ?_ | refine rg rfl rfl (qt_pev tok rfl) ?_ | refine rq (ql tok rfl) ?_ | refine rg rfl rfl (ql tok rfl) ?_ | (refine runL_op0 (sst tok rfl rfl rfl rfl rfl) ?_; rintro _ _ _ ⟨rfl, rfl, rfl⟩) | ((first | refine ro (st_box rfl) ?_ | refine ro (st_alloc tok rfl) ?_ | refine ro (st_buildSlice tok rfl rfl rfl rfl rfl rfl rfl) ?_); rintro _ _ _ ⟨_, rfl, rfl, rfl⟩))
  refine run_loopN (fun j σ1 M2 L1 => j ≤ len ∧ M = M2 ∧ L = L1 ∧ (∀ y ∈ xs.take j, chkA y = 0) ∧ σ1 = [(12, .int .i64 (j : Int)), (11, .int .i64 (len : Int)), (10, .slice sa len cap), (0, .slice sa len cap)]) len [(12, .int .i64 ((0 : Nat) : Int)), (11, .int .i64 (len : Int)), (10, .slice sa len cap), (0, .slice sa len cap)] ?_ ⟨Nat.zero_le _, rfl, rfl, by simp, rfl⟩ (fun j _ _ _ h => h.1) ?_
  · exact ⟨rfl, rfl, rfl, rfl, trivial⟩
  rintro j _ _ _ ⟨hj, rfl, rfl, h0, rfl⟩ hnext
  repeat (first | with_reducible (first | refine cS ?_ | refine cR ?_ | refine cN ?_ | refine cK ?_ | refine cB ?_ | refine cI ?_) | refine cE rfl ?_ | refine rq (qt_pev tok rfl) ?_ | refine rg rfl rfl (qt_pev tok rfl) ?_ | refine rq (ql tok rfl) ?_ | refine rg rfl rfl (ql tok rfl) ?_ | (refine runL_op0 (sst tok rfl rfl rfl rfl rfl) ?_; rintro _ _ _ ⟨rfl, rfl, rfl⟩) | ((first | refine ro (st_box rfl) ?_ | refine ro (st_alloc tok rfl) ?_ | refine ro (st_buildSlice tok rfl rfl rfl rfl rfl rfl rfl) ?_); rintro _ _ _ ⟨_, rfl, rfl, rfl⟩))
  refine run_cond rfl (fun h => ?_) (fun h => ?_)
  · have hlt : j < len := by simpa using h
    obtain ⟨b, off, x, rfl, hx, hcells⟩ := SAx.at_ hs.sl hlt
    have hxw := hs.each x (List.mem_of_getElem? hx)
    repeat (first | with_reducible (first | refine cS ?_ | refine cR ?_ | refine cN ?_ | refine cK ?_ | refine cB ?_ | refine cI ?_) | refine cE rfl ?_ | refine rq (qt_pev tok rfl) ?_ | refine rg rfl rfl (qt_pev tok rfl) ?_ | refine rq (ql tok rfl) ?_ | refine rg rfl rfl (ql tok rfl) ?_ | (refine runL_op0 (sst tok rfl rfl rfl rfl rfl) ?_; rintro _ _ _ ⟨rfl, rfl, rfl⟩) | ((first | refine ro (st_box rfl) ?_ | refine ro (st_alloc tok rfl) ?_ | refine ro (st_buildSlice tok rfl rfl rfl rfl rfl rfl rfl) ?_); rintro _ _ _ ⟨_, rfl, rfl, rfl⟩) | refine runL_q (qt_indexN tok rfl rfl rfl rfl (fun _ => by omega)) rfl rfl rfl ?_ | refine runL_g rfl rfl (qt_indexN tok rfl rfl rfl rfl (fun _ => by omega)) rfl rfl rfl rfl rfl ?_ | refine runL_q (qt_ldM tok rfl hcells rfl) rfl rfl rfl ?_ | refine runL_g rfl rfl (qt_ldM tok rfl hcells rfl) rfl rfl rfl rfl rfl ?_ | refine runL_q (qt_ldM0 tok rfl hcells rfl) rfl rfl rfl ?_ | refine runL_g rfl rfl (qt_ldM0 tok rfl hcells rfl) rfl rfl rfl rfl rfl ?_ | refine runL_q (qt_callF rfl (fun _ => scheck_ok _ _ x hxw.ok)) rfl rfl rfl ?_)
    refine run_cond rfl (fun h => ?_) (fun h => ?_)
    · have hx0 : chkA x ≠ 0 := by simpa using h
      have hd := chkL_drop hx h0
      have hv : chkL xs = chkA x := by rw [hd.1, hd.2, chkL, if_neg hx0]
      have hE : encA xs = (⟨#[]⟩, chkA x) := by rw [encA, hv, if_neg hx0]
      repeat (first | with_reducible (first | refine cS ?_ | refine cR ?_ | refine cN ?_ | refine cK ?_ | refine cB ?_ | refine cI ?_) | refine cE rfl ?_ | refine rq (qt_pev tok rfl) ?_ | refine rg rfl rfl (qt_pev tok rfl) ?_ | refine rq (ql tok rfl) ?_ | refine rg rfl rfl (ql tok rfl) ?_ | (refine runL_op0 (sst tok rfl rfl rfl rfl rfl) ?_; rintro _ _ _ ⟨rfl, rfl, rfl⟩) | ((first | refine ro (st_box rfl) ?_ | refine ro (st_alloc tok rfl) ?_ | refine ro (st_buildSlice tok rfl rfl rfl rfl rfl rfl rfl) ?_); rintro _ _ _ ⟨_, rfl, rfl, rfl⟩))
      exact run_ret hC (rs := [.tmp 2, .tmp 3]) rfl (resT rfl (resT rfl resN)) (fun _ h => h.drop) ⟨by rw [hE]; rfl, Mem.le_refl _, rfl⟩
    · have hx0 : chkA x = 0 := by simpa using h
      repeat (first | with_reducible (first | refine cS ?_ | refine cR ?_ | refine cN ?_ | refine cK ?_ | refine cB ?_ | refine cI ?_) | refine cE rfl ?_ | refine rq (qt_pev tok rfl) ?_ | refine rg rfl rfl (qt_pev tok rfl) ?_ | refine rq (ql tok rfl) ?_ | refine rg rfl rfl (ql tok rfl) ?_ | (refine runL_op0 (sst tok rfl rfl rfl rfl rfl) ?_; rintro _ _ _ ⟨rfl, rfl, rfl⟩) | ((first | refine ro (st_box rfl) ?_ | refine ro (st_alloc tok rfl) ?_ | refine ro (st_buildSlice tok rfl rfl rfl rfl rfl rfl rfl) ?_); rintro _ _ _ ⟨_, rfl, rfl, rfl⟩))
      refine run_mem (fun _ h => h.drop) ?_
      refine run_sub' (hnext _ _ _ ⟨hlt, rfl, rfl, ?_, rfl⟩) ⟨lk_succ rfl (by omega), rfl, rfl, rfl, trivial⟩
      intro y hy
      rw [take_snoc hx] at hy
      rcases List.mem_append.1 hy with hy | hy
      · exact h0 y hy
      · rw [List.mem_singleton.1 hy]; exact hx0
  · have hge : j = len := by simp at h; omega
    subst hge
    have hall : ∀ y ∈ xs, chkA y = 0 := by
      rw [List.take_of_length_le (Nat.le_of_eq hlen)] at h0
      exact h0
    have hEA : encA xs = encR xs bz := by rw [encA, if_pos (chkL_all hall)]
    clear h0 hnext
    repeat (first | with_reducible (first | refine cS ?_ | refine cR ?_ | refine cN ?_ | refine cK ?_ | refine cB ?_ | refine cI ?_) | refine cE rfl ?_ | refine rq (qt_pev tok rfl) ?_ | refine rg rfl rfl (qt_pev tok rfl) ?_ | refine rq (ql tok rfl) ?_ | refine rg rfl rfl (ql tok rfl) ?_ | (refine runL_op0 (sst tok rfl rfl rfl rfl rfl) ?_; rintro _ _ _ ⟨rfl, rfl, rfl⟩) | ((first | refine ro (st_box rfl) ?_ | refine ro (st_alloc tok rfl) ?_ | refine ro (st_buildSlice tok rfl rfl rfl rfl rfl rfl rfl) ?_); rintro _ _ _ ⟨_, rfl, rfl, rfl⟩))
    refine run_loopN (fun i σ1 M2 L1 => i ≤ j ∧ M.le M2 ∧ L = L1 ∧ ∃ S : ByteArray, S.size ≤ 65536 ∧ encR xs bz = encR (xs.drop i) S ∧ σ1 = [(24, .int .i64 (i : Int)), (23, .int .i64 (j : Int)), (22, .slice sa j cap), (7, .string S)]) j [(24, .int .i64 ((0 : Nat) : Int)), (23, .int .i64 (j : Int)), (22, .slice sa j cap), (7, .string bz)] ?_ ⟨Nat.zero_le _, Mem.le_refl _, rfl, bz, by decide, rfl, rfl⟩ (fun j _ _ _ h => h.1) ?_
    · exact ⟨rfl, rfl, rfl, rfl, trivial⟩
    rintro i _ M2 _ ⟨hi, hM2, rfl, S, hS, hE, rfl⟩ hnext
    repeat (first | with_reducible (first | refine cS ?_ | refine cR ?_ | refine cN ?_ | refine cK ?_ | refine cB ?_ | refine cI ?_) | refine cE rfl ?_ | refine rq (qt_pev tok rfl) ?_ | refine rg rfl rfl (qt_pev tok rfl) ?_ | refine rq (ql tok rfl) ?_ | refine rg rfl rfl (ql tok rfl) ?_ | (refine runL_op0 (sst tok rfl rfl rfl rfl rfl) ?_; rintro _ _ _ ⟨rfl, rfl, rfl⟩) | ((first | refine ro (st_box rfl) ?_ | refine ro (st_alloc tok rfl) ?_ | refine ro (st_buildSlice tok rfl rfl rfl rfl rfl rfl rfl) ?_); rintro _ _ _ ⟨_, rfl, rfl, rfl⟩))
    refine run_cond rfl (fun h => ?_) (fun h => ?_)
    · have hlt : i < j := by simpa using h
      obtain ⟨b, off, x, rfl, hx, hcells⟩ := SAx.at_ (hs.le hM2).sl hlt
      have hxw := (hs.le hM2).each x (List.mem_of_getElem? hx)
      have hal := actB_lim (hxw.iff.1 (hall x (List.mem_of_getElem? hx))) (hxw.short (hxw.iff.1 (hall x (List.mem_of_getElem? hx))))
      have hcat : S.size + (actB x.aa).size < 4611686018427387904 := by omega
      have hxp := hxw.iff.1 (hall x (List.mem_of_getElem? hx))
      repeat (first | with_reducible (first | refine cS ?_ | refine cR ?_ | refine cN ?_ | refine cK ?_ | refine cB ?_ | refine cI ?_) | refine cE rfl ?_ | refine rq (qt_pev tok rfl) ?_ | refine rg rfl rfl (qt_pev tok rfl) ?_ | refine rq (ql tok rfl) ?_ | refine rg rfl rfl (ql tok rfl) ?_ | (refine runL_op0 (sst tok rfl rfl rfl rfl rfl) ?_; rintro _ _ _ ⟨rfl, rfl, rfl⟩) | ((first | refine ro (st_box rfl) ?_ | refine ro (st_alloc tok rfl) ?_ | refine ro (st_buildSlice tok rfl rfl rfl rfl rfl rfl rfl) ?_); rintro _ _ _ ⟨_, rfl, rfl, rfl⟩) | refine runL_q (qt_indexN tok rfl rfl rfl rfl (fun _ => by omega)) rfl rfl rfl ?_ | refine runL_g rfl rfl (qt_indexN tok rfl rfl rfl rfl (fun _ => by omega)) rfl rfl rfl rfl rfl ?_ | refine runL_q (qt_ldM tok rfl hcells rfl) rfl rfl rfl ?_ | refine runL_g rfl rfl (qt_ldM tok rfl hcells rfl) rfl rfl rfl rfl rfl ?_ | refine runL_q (qt_ldM0 tok rfl hcells rfl) rfl rfl rfl ?_ | refine runL_g rfl rfl (qt_ldM0 tok rfl hcells rfl) rfl rfl rfl rfl rfl ?_ | refine runL_op (st_callF rfl (fun _ => written_ok _ _ x hxw hxp)) rfl rfl rfl ?_; rintro _ M3 _ ⟨rfl, hM3, rfl⟩ | refine runL_q (qt_concat rfl rfl hcat) rfl rfl rfl ?_)
      have hd : xs.drop i = x :: xs.drop (i + 1) := by
        obtain ⟨hlt', hx'⟩ := List.getElem?_eq_some_iff.1 hx
        rw [List.drop_eq_getElem_cons hlt', hx']
      refine run_cond rfl (fun h => ?_) (fun h => ?_)
      · have hgt : 65536 < (S ++ actB x.aa).size := by simp at h; rw [app_size]; omega
        have hv : encA xs = (⟨#[]⟩, 5) := by rw [hEA, hE, hd, encR, if_pos hgt]
        repeat (first | with_reducible (first | refine cS ?_ | refine cR ?_ | refine cN ?_ | refine cK ?_ | refine cB ?_ | refine cI ?_) | refine cE rfl ?_ | refine rq (qt_pev tok rfl) ?_ | refine rg rfl rfl (qt_pev tok rfl) ?_ | refine rq (ql tok rfl) ?_ | refine rg rfl rfl (ql tok rfl) ?_ | (refine runL_op0 (sst tok rfl rfl rfl rfl rfl) ?_; rintro _ _ _ ⟨rfl, rfl, rfl⟩) | ((first | refine ro (st_box rfl) ?_ | refine ro (st_alloc tok rfl) ?_ | refine ro (st_buildSlice tok rfl rfl rfl rfl rfl rfl rfl) ?_); rintro _ _ _ ⟨_, rfl, rfl, rfl⟩))
        exact run_ret hC (rs := [.tmp 2, .tmp 3]) rfl (resT rfl (resT rfl resN)) (fun _ h => h.drop) ⟨by rw [hv]; rfl, Mem.le_trans hM2 hM3, rfl⟩
      · have hgt : ¬ 65536 < (S ++ actB x.aa).size := by simp at h; rw [app_size]; omega
        repeat (first | with_reducible (first | refine cS ?_ | refine cR ?_ | refine cN ?_ | refine cK ?_ | refine cB ?_ | refine cI ?_) | refine cE rfl ?_ | refine rq (qt_pev tok rfl) ?_ | refine rg rfl rfl (qt_pev tok rfl) ?_ | refine rq (ql tok rfl) ?_ | refine rg rfl rfl (ql tok rfl) ?_ | (refine runL_op0 (sst tok rfl rfl rfl rfl rfl) ?_; rintro _ _ _ ⟨rfl, rfl, rfl⟩) | ((first | refine ro (st_box rfl) ?_ | refine ro (st_alloc tok rfl) ?_ | refine ro (st_buildSlice tok rfl rfl rfl rfl rfl rfl rfl) ?_); rintro _ _ _ ⟨_, rfl, rfl, rfl⟩))
        refine run_mem (fun _ h => h.drop) ?_
        refine run_sub' (hnext _ _ _ ⟨hlt, Mem.le_trans hM2 hM3, rfl, S ++ actB x.aa, by omega, ?_, rfl⟩) ⟨lk_succ rfl (by omega), rfl, rfl, rfl, trivial⟩
        rw [hE, hd, encR, if_neg hgt]
    · have hge : i = j := by simp at h; omega
      subst hge
      have hv : encA xs = (S, 0) := by rw [hEA, hE, List.drop_eq_nil_of_le (Nat.le_of_eq hlen), encR]
      repeat (first | with_reducible (first | refine cS ?_ | refine cR ?_ | refine cN ?_ | refine cK ?_ | refine cB ?_ | refine cI ?_) | refine cE rfl ?_ | refine rq (qt_pev tok rfl) ?_ | refine rg rfl rfl (qt_pev tok rfl) ?_ | refine rq (ql tok rfl) ?_ | refine rg rfl rfl (ql tok rfl) ?_ | (refine runL_op0 (sst tok rfl rfl rfl rfl rfl) ?_; rintro _ _ _ ⟨rfl, rfl, rfl⟩) | ((first | refine ro (st_box rfl) ?_ | refine ro (st_alloc tok rfl) ?_ | refine ro (st_buildSlice tok rfl rfl rfl rfl rfl rfl rfl) ?_); rintro _ _ _ ⟨_, rfl, rfl, rfl⟩))
      exact run_ret hC (rs := [.tmp 2, .tmp 3]) rfl (resT rfl (resT rfl resN)) (fun _ h => h) ⟨by rw [hv]; rfl, hM2, rfl⟩
end Go.Proofs.Ytbpgiodfccijmaa
namespace Go.Proofs.Ytbpgiodfccijmaa
open Go.Chi

/-! ### an act, read part by part -/
def stepS (f : Nat) (a : Aa) (s : ByteArray) : Option (Aa × ByteArray) :=
  if f = 46 then sOrg a s else
  if f = 47 then sAud a s else
  if f = 48 then sGiv a s else
  if f = 49 then sTxn a s else
  if f = 50 then sYes a s else
  if f = 51 then sNn a s else sStp a s
def goS : List Nat → Aa → ByteArray → Option (Aa × ByteArray)
  | [], a, s => some (a, s)
  | f :: l, a, s => (stepS f a s).bind fun x => goS l x.1 x.2
def aa0 (k : Int) : Aa := ⟨k, 0, 0, 0, [], tz, false, []⟩
theorem stepS_org : stepS 46 = sOrg := by funext a s; rw [stepS, if_pos rfl]
theorem stepS_auditor : stepS 47 = sAud := by funext a s; rw [stepS, if_neg (by decide), if_pos rfl]
theorem stepS_gives : stepS 48 = sGiv := by funext a s; rw [stepS, if_neg (by decide), if_neg (by decide), if_pos rfl]
theorem stepS_txn : stepS 49 = sTxn := by funext a s; rw [stepS, if_neg (by decide), if_neg (by decide), if_neg (by decide), if_pos rfl]
theorem stepS_yes : stepS 50 = sYes := by funext a s; rw [stepS, if_neg (by decide), if_neg (by decide), if_neg (by decide), if_neg (by decide), if_pos rfl]
theorem stepS_n : stepS 51 = sNn := by funext a s; rw [stepS, if_neg (by decide), if_neg (by decide), if_neg (by decide), if_neg (by decide), if_neg (by decide), if_pos rfl]
theorem stepS_steps : stepS 52 = sStp := by funext a s; rw [stepS, if_neg (by decide), if_neg (by decide), if_neg (by decide), if_neg (by decide), if_neg (by decide), if_neg (by decide)]
theorem goS_act (k : Int) (s : ByteArray) : goS (partF k) (aa0 k) s = pAct k s := by
  unfold partF pAct
  split
  · rename_i h; subst h
    simp only [goS, stepS_org, stepS_auditor, stepS_gives, sOrg, sAud, sGiv, Option.bind_assoc, Option.bind_some, aa0]
  split
  · rename_i h; subst h
    simp only [goS, stepS_org, stepS_txn, stepS_yes, sOrg, sTxn, sYes, Option.bind_assoc, Option.bind_some, aa0]
  split
  · simp only [goS, stepS_org, sOrg, Option.bind_assoc, Option.bind_some, aa0]
  split
  · rename_i h; subst h
    simp only [goS, stepS_n, sNn, Option.bind_assoc, Option.bind_some, aa0]
  split
  · simp only [goS, stepS_org, stepS_steps, sOrg, sStp, Option.bind_assoc, Option.bind_some, aa0]
  split
  · simp only [goS, stepS_org, stepS_n, sOrg, sNn, Option.bind_assoc, Option.bind_some, aa0]
  split
  · rename_i h; subst h
    simp only [goS, stepS_org, stepS_txn, sOrg, sTxn, Option.bind_assoc, Option.bind_some, aa0]
  · rfl
theorem rgmeth_ok {k : Int} {f : Nat} (hf : f ∈ partF k) (M : Mem) (L : HL) (ba br : Nat) (s : ByteArray) (a : Ax) (hs : s.size < 4611686018427387904) (hq : AxW M a) : TrE Try.prog f [.agg ⟨fmC ba rT br⟩] M (rcB br s :: axB ba a :: L) (rgK (stepS f a.aa s) br ba M L) := by
  rcases partF_mem hf with rfl | rfl | rfl | rfl | rfl | rfl | rfl
  · rw [stepS_org]; exact rorgF_ok M L ba br s a hs hq
  · rw [stepS_auditor]; exact rauditorF_ok M L ba br s a hs hq
  · rw [stepS_gives]; exact rgivesF_ok M L ba br s a hs hq
  · rw [stepS_txn]; exact rtxnF_ok M L ba br s a hs hq
  · rw [stepS_yes]; exact ryesF_ok M L ba br s a hs hq
  · rw [stepS_n]; exact rnF_ok M L ba br s a hs hq
  · rw [stepS_steps]; exact rstepsF_ok M L ba br s a hs hq
theorem stepS_sz {f : Nat} {a : Aa} {s : ByteArray} {x : Aa × ByteArray} (h : stepS f a s = some x) : x.2.size ≤ s.size := by
  unfold stepS at h
  repeat' split at h
  · obtain ⟨⟨v, s1⟩, h1, h⟩ := Option.bind_eq_some_iff.1 h; cases h; exact pN_sz h1
  · obtain ⟨⟨v, s1⟩, h1, h⟩ := Option.bind_eq_some_iff.1 h; cases h; exact pN_sz h1
  · obtain ⟨⟨v, s1⟩, h1, h⟩ := Option.bind_eq_some_iff.1 h; cases h; rw [pGives_back h1, app_size]; exact Nat.le_add_left _ _
  · obtain ⟨⟨v, s1⟩, h1, h⟩ := Option.bind_eq_some_iff.1 h; cases h; rw [pTx_back h1, app_size]; exact Nat.le_add_left _ _
  · obtain ⟨⟨v, s1⟩, h1, h⟩ := Option.bind_eq_some_iff.1 h; cases h; rw [pY_back h1, app_size]; exact Nat.le_add_left _ _
  · obtain ⟨⟨v, s1⟩, h1, h⟩ := Option.bind_eq_some_iff.1 h; cases h; exact pN_sz h1
  · obtain ⟨⟨v, s1⟩, h1, h⟩ := Option.bind_eq_some_iff.1 h; cases h; rw [pSteps_back h1, app_size]; exact Nat.le_add_left _ _
def ax0 (k : Int) : Ax := ⟨k, 0, 0, 0, ⟨none, 0, 0, []⟩, ⟨0, 0, 0⟩, false, ⟨none, 0, 0, []⟩⟩
theorem ax0_ok (M : Mem) (k : Int) : AxW M (ax0 k) := ⟨⟨SlM.nil _ _ _, by show 0 < 1000000; decide⟩, ⟨SlZ.nil _ _ _, by show 0 < 1000000; decide, (fun x hx => by cases hx)⟩, (fun m hm => by cases hm)⟩
def oneK (s : ByteArray) (M : Mem) (L : HL) (v : Value) (M' : Mem) (L' : HL) : Prop :=
  M.le M' ∧ L' = L ∧ ∃ (a : Ax) (x : ByteArray) (ok : Bool), v = .tuple ⟨[.agg ⟨axC a⟩, .string x, .bool ok]⟩ ∧ AxW M' a ∧ (ok = true → One s a.aa x) ∧ (ok = false → ∀ b y, ¬ One s b y)
end Go.Proofs.Ytbpgiodfccijmaa
namespace Go.Proofs.Ytbpgiodfccijmaa
open Go.Chi

/-! ### script.one -/
set_option maxRecDepth 10000 in
set_option maxHeartbeats 16000000 in
theorem sone_ok (M : Mem) (L : HL) (s : ByteArray) (h0 : s.size ≠ 0) (hs : s.size < 4611686018427387904) : Tr Try.prog 33 [.string s] M L (oneK s M L) := by
  have hp : 0 < s.size := by omega
  obtain ⟨b0, hb0, hb0'⟩ := byte_at hp
  refine TrE.tr (K := fun en M' L' => ∃ v, en = .returned v ∧ oneK s M L v M' L') ?_ (fun e M' L' ⟨v, h1, h2⟩ => ⟨v, h1, h2⟩)
  refine TrE.intro 36 Try.func33 rfl rfl Try.call33 rfl ?_
  intro C hC hro
  repeat (first | with_reducible (first | refine cS ?_ | refine cR ?_ | refine cN ?_ | refine cK ?_ | refine cB ?_ | refine cI ?_) | refine cE rfl ?_ | refine rq (qt_pev tok rfl) ?_ | refine rg rfl rfl (qt_pev tok rfl) ?_ | refine rq (ql tok rfl) ?_ | refine rg rfl rfl (ql tok rfl) ?_ | (refine runL_op0 (sst tok rfl rfl rfl rfl rfl) ?_; rintro _ _ _ ⟨rfl, rfl, rfl⟩) | ((first | refine ro (st_box rfl) ?_ | refine ro (st_alloc tok rfl) ?_ | refine ro (st_buildSlice tok rfl rfl rfl rfl rfl rfl rfl) ?_); rintro _ _ _ ⟨_, rfl, rfl, rfl⟩))
  rename_i ba bo
  have hthrow : ∀ (M1 : Mem) (a : Ax), M.le M1 → (∀ b y, ¬ One s b y) → RunX Try.prog C 36 (.panicking panS) [⟨.fn (.func 42) ⟨[.pointer (some ⟨ba, 0, none⟩), .pointer (some ⟨bo, 0, none⟩)]⟩, #[]⟩] [(4, .pointer (some ⟨bo, 0, none⟩)), (3, .string ⟨#[]⟩), (2, .pointer (some ⟨ba, 0, none⟩))] M1 (axB ba a :: obB bo [.bool false] 4 :: L) := by
    intro M1 a hM1 hno
    refine runX_defer (args := [.pointer (some ⟨ba, 0, none⟩), .pointer (some ⟨bo, 0, none⟩)]) 17 (by simp) Try.func42 rfl rfl Try.call42 rfl rfl ?_
    intro a0 k0 q1 q2 q3
    refine run_seq ?_
    refine run_region ?_
    refine runL_recover rfl rfl rfl ?_
    repeat (first | with_reducible (first | refine cS ?_ | refine cR ?_ | refine cN ?_ | refine cK ?_ | refine cB ?_ | refine cI ?_) | refine cE rfl ?_ | refine rq (qt_pev tok rfl) ?_ | refine rg rfl rfl (qt_pev tok rfl) ?_ | refine rq (ql tok rfl) ?_ | refine rg rfl rfl (ql tok rfl) ?_ | (refine runL_op0 (sst tok rfl rfl rfl rfl rfl) ?_; rintro _ _ _ ⟨rfl, rfl, rfl⟩) | ((first | refine ro (st_box rfl) ?_ | refine ro (st_alloc tok rfl) ?_ | refine ro (st_buildSlice tok rfl rfl rfl rfl rfl rfl rfl) ?_); rintro _ _ _ ⟨_, rfl, rfl, rfl⟩))
    refine runL_q (qt_neNil (v := .agg ⟨[]⟩) uAny rfl) rfl rfl rfl ?_
    repeat (first | with_reducible (first | refine cS ?_ | refine cR ?_ | refine cN ?_ | refine cK ?_ | refine cB ?_ | refine cI ?_) | refine cE rfl ?_ | refine rq (qt_pev tok rfl) ?_ | refine rg rfl rfl (qt_pev tok rfl) ?_ | refine rq (ql tok rfl) ?_ | refine rg rfl rfl (ql tok rfl) ?_ | (refine runL_op0 (sst tok rfl rfl rfl rfl rfl) ?_; rintro _ _ _ ⟨rfl, rfl, rfl⟩) | ((first | refine ro (st_box rfl) ?_ | refine ro (st_alloc tok rfl) ?_ | refine ro (st_buildSlice tok rfl rfl rfl rfl rfl rfl rfl) ?_); rintro _ _ _ ⟨_, rfl, rfl, rfl⟩))
    refine run_cond rfl (fun _ => ?_) (fun h => ?_)
    rotate_left
    · cases h
    repeat (first | with_reducible (first | refine cS ?_ | refine cR ?_ | refine cN ?_ | refine cK ?_ | refine cB ?_ | refine cI ?_) | refine cE rfl ?_ | refine rq (qt_pev tok rfl) ?_ | refine rg rfl rfl (qt_pev tok rfl) ?_ | refine rq (ql tok rfl) ?_ | refine rg rfl rfl (ql tok rfl) ?_ | (refine runL_op0 (sst tok rfl rfl rfl rfl rfl) ?_; rintro _ _ _ ⟨rfl, rfl, rfl⟩) | ((first | refine ro (st_box rfl) ?_ | refine ro (st_alloc tok rfl) ?_ | refine ro (st_buildSlice tok rfl rfl rfl rfl rfl rfl rfl) ?_); rintro _ _ _ ⟨_, rfl, rfl, rfl⟩) | refine runL_q (qt_assertCk tok rfl rfl rfl) rfl rfl rfl ?_)
    refine run_cond rfl (fun h => ?_) (fun _ => ?_)
    · cases h
    repeat (first | with_reducible (first | refine cS ?_ | refine cR ?_ | refine cN ?_ | refine cK ?_ | refine cB ?_ | refine cI ?_) | refine cE rfl ?_ | refine rq (qt_pev tok rfl) ?_ | refine rg rfl rfl (qt_pev tok rfl) ?_ | refine rq (ql tok rfl) ?_ | refine rg rfl rfl (ql tok rfl) ?_ | (refine runL_op0 (sst tok rfl rfl rfl rfl rfl) ?_; rintro _ _ _ ⟨rfl, rfl, rfl⟩) | ((first | refine ro (st_box rfl) ?_ | refine ro (st_alloc tok rfl) ?_ | refine ro (st_buildSlice tok rfl rfl rfl rfl rfl rfl rfl) ?_); rintro _ _ _ ⟨_, rfl, rfl, rfl⟩))
    refine run_endX rfl ?_
    refine runX_dret Try.func42 rfl q1 q2 q3 ?_
    show RunX _ _ _ .returning _ _ _ _
    refine runX_ret hC (rs := [.cell 2 37, .tmp 3, .cell 4 4]) rfl (rl tok rfl (resT rfl (rl tok rfl resN))) (fun _ h => h.drop.drop.drop) ⟨_, rfl, hM1, rfl, ax0 0, _, false, rfl, ax0_ok _ _, (fun h => by cases h), fun _ => hno⟩
  refine runL_defer hro rfl rfl ?_
  repeat (first | with_reducible (first | refine cS ?_ | refine cR ?_ | refine cN ?_ | refine cK ?_ | refine cB ?_ | refine cI ?_) | refine cE rfl ?_ | refine rq (qt_pev tok rfl) ?_ | refine rg rfl rfl (qt_pev tok rfl) ?_ | refine rq (ql tok rfl) ?_ | refine rg rfl rfl (ql tok rfl) ?_ | (refine runL_op0 (sst tok rfl rfl rfl rfl rfl) ?_; rintro _ _ _ ⟨rfl, rfl, rfl⟩) | ((first | refine ro (st_box rfl) ?_ | refine ro (st_alloc tok rfl) ?_ | refine ro (st_buildSlice tok rfl rfl rfl rfl rfl rfl rfl) ?_); rintro _ _ _ ⟨_, rfl, rfl, rfl⟩) | refine runL_q (qt_strLo (n := 1) tok rfl rfl rfl (fun _ => hp)) rfl rfl rfl ?_ | refine runL_q (Qt.as (v' := .int .u8 (byte s 0)) (qt_strIndex (n := 0) tok rfl rfl rfl (fun _ => hb0)) (by rw [hb0'])) rfl rfl rfl ?_ | refine runL_q (qt_makeIfaceC tok rfl rfl rfl) rfl rfl rfl ?_)
  rename_i br
  refine runL_op (st_callF rfl (fun _ => parts_ok _ _ ba rT br (byte s 0) (axC (ax0 (byte s 0))) (List.mem_cons_of_mem _ (List.mem_cons_of_mem _ List.mem_cons_self)) rfl)) rfl rfl rfl ?_
  rintro _ M1 _ ⟨hM1, rfl, sa, cp, rfl, hsl⟩
  repeat (first | with_reducible (first | refine cS ?_ | refine cR ?_ | refine cN ?_ | refine cK ?_ | refine cB ?_ | refine cI ?_) | refine cE rfl ?_ | refine rq (qt_pev tok rfl) ?_ | refine rg rfl rfl (qt_pev tok rfl) ?_ | refine rq (ql tok rfl) ?_ | refine rg rfl rfl (ql tok rfl) ?_ | (refine runL_op0 (sst tok rfl rfl rfl rfl rfl) ?_; rintro _ _ _ ⟨rfl, rfl, rfl⟩) | ((first | refine ro (st_box rfl) ?_ | refine ro (st_alloc tok rfl) ?_ | refine ro (st_buildSlice tok rfl rfl rfl rfl rfl rfl rfl) ?_); rintro _ _ _ ⟨_, rfl, rfl, rfl⟩))
  generalize hk : byte s 0 = k at hsl ⊢
  have hr1 : (rest1 s).size ≤ s.size := by rw [rest1_size]; omega
  refine run_mem (M' := M1) (L' := rcB br (rest1 s) :: axB ba (ax0 k) :: obB bo [.bool false] 4 :: L) (fun _ h => h.perm (List.Perm.cons _ (List.Perm.swap _ _ _))) ?_
  refine run_loopN (fun j σ1 M2 L1 => j ≤ (partF k).length ∧ M1.le M2 ∧ ∃ (aj : Ax) (sj : ByteArray), AxW M2 aj ∧ pAct k (rest1 s) = goS ((partF k).drop j) aj.aa sj ∧ sj.size ≤ s.size ∧ L1 = rcB br sj :: axB ba aj :: obB bo [.bool false] 4 :: L ∧ σ1 = [(21, .int .i64 (j : Int)), (20, .int .i64 ((partF k).length : Int)), (19, .slice sa (partF k).length cp), (5, .pointer (some ⟨br, 0, none⟩)), (4, .pointer (some ⟨bo, 0, none⟩)), (3, .string ⟨#[]⟩), (2, .pointer (some ⟨ba, 0, none⟩))]) (partF k).length [(21, .int .i64 ((0 : Nat) : Int)), (20, .int .i64 ((partF k).length : Int)), (19, .slice sa (partF k).length cp), (5, .pointer (some ⟨br, 0, none⟩)), (4, .pointer (some ⟨bo, 0, none⟩)), (3, .string ⟨#[]⟩), (2, .pointer (some ⟨ba, 0, none⟩))] ?_ ⟨Nat.zero_le _, Mem.le_refl _, ax0 k, rest1 s, ax0_ok _ _, (goS_act k (rest1 s)).symm, hr1, rfl, rfl⟩ (fun j _ _ _ h => h.1) ?_
  · exact ⟨rfl, rfl, rfl, rfl, rfl, rfl, rfl, trivial⟩
  rintro j _ M2 _ ⟨hj, hM2, aj, sj, haj, hgo, hsj, rfl, rfl⟩ hnext
  have hle := Mem.le_trans hM1 hM2
  repeat (first | with_reducible (first | refine cS ?_ | refine cR ?_ | refine cN ?_ | refine cK ?_ | refine cB ?_ | refine cI ?_) | refine cE rfl ?_ | refine rq (qt_pev tok rfl) ?_ | refine rg rfl rfl (qt_pev tok rfl) ?_ | refine rq (ql tok rfl) ?_ | refine rg rfl rfl (ql tok rfl) ?_ | (refine runL_op0 (sst tok rfl rfl rfl rfl rfl) ?_; rintro _ _ _ ⟨rfl, rfl, rfl⟩) | ((first | refine ro (st_box rfl) ?_ | refine ro (st_alloc tok rfl) ?_ | refine ro (st_buildSlice tok rfl rfl rfl rfl rfl rfl rfl) ?_); rintro _ _ _ ⟨_, rfl, rfl, rfl⟩))
  refine run_cond rfl (fun h => ?_) (fun h => ?_)
  · have hlt : j < (partF k).length := by simpa using h
    have hl3 := partF_len k
    obtain ⟨b, off, cl, rfl, hcl, _, hcells⟩ := (hsl.le hM2).at_ hlt
    obtain ⟨f, hf, rfl⟩ : ∃ f, (partF k)[j]? = some f ∧ [fmV ba rT br f] = cl := by simpa using hcl
    have hdr : (partF k).drop j = f :: (partF k).drop (j + 1) := by
      obtain ⟨hl, he⟩ := List.getElem?_eq_some_iff.1 hf
      rw [← he]; exact (List.getElem_cons_drop (h := hl)).symm
    rw [hdr, goS] at hgo
    repeat (first | with_reducible (first | refine cS ?_ | refine cR ?_ | refine cN ?_ | refine cK ?_ | refine cB ?_ | refine cI ?_) | refine cE rfl ?_ | refine rq (qt_pev tok rfl) ?_ | refine rg rfl rfl (qt_pev tok rfl) ?_ | refine rq (ql tok rfl) ?_ | refine rg rfl rfl (ql tok rfl) ?_ | (refine runL_op0 (sst tok rfl rfl rfl rfl rfl) ?_; rintro _ _ _ ⟨rfl, rfl, rfl⟩) | ((first | refine ro (st_box rfl) ?_ | refine ro (st_alloc tok rfl) ?_ | refine ro (st_buildSlice tok rfl rfl rfl rfl rfl rfl rfl) ?_); rintro _ _ _ ⟨_, rfl, rfl, rfl⟩) | refine runL_q (qt_indexN tok rfl rfl rfl rfl (fun _ => by omega)) rfl rfl rfl ?_ | refine runL_g rfl rfl (qt_indexN tok rfl rfl rfl rfl (fun _ => by omega)) rfl rfl rfl rfl rfl ?_ | refine runL_q (qt_ldM tok rfl hcells rfl) rfl rfl rfl ?_ | refine runL_g rfl rfl (qt_ldM tok rfl hcells rfl) rfl rfl rfl rfl rfl ?_ | refine runL_q (qt_ldM0 tok rfl hcells rfl) rfl rfl rfl ?_ | refine runL_g rfl rfl (qt_ldM0 tok rfl hcells rfl) rfl rfl rfl rfl rfl ?_)
    refine runL_callVE (vs := []) rfl rfl (rgmeth_ok (List.mem_of_getElem? hf) M2 _ ba br sj aj (by omega) haj) rfl rfl rfl ?_ ?_
    · rintro v M3 L3 ⟨hM3, hv⟩
      cases hst : stepS f aj.aa sj with
      | none => rw [hst] at hv; cases hv.1
      | some x =>
        rw [hst] at hv
        obtain ⟨hv, a3, he3, ha3, rfl⟩ := hv
        rw [Ending.returned.injEq] at hv
        subst hv
        rw [hst, Option.bind_some, ← he3] at hgo
        have hz := stepS_sz hst
        repeat (first | with_reducible (first | refine cS ?_ | refine cR ?_ | refine cN ?_ | refine cK ?_ | refine cB ?_ | refine cI ?_) | refine cE rfl ?_ | refine rq (qt_pev tok rfl) ?_ | refine rg rfl rfl (qt_pev tok rfl) ?_ | refine rq (ql tok rfl) ?_ | refine rg rfl rfl (ql tok rfl) ?_ | (refine runL_op0 (sst tok rfl rfl rfl rfl rfl) ?_; rintro _ _ _ ⟨rfl, rfl, rfl⟩) | ((first | refine ro (st_box rfl) ?_ | refine ro (st_alloc tok rfl) ?_ | refine ro (st_buildSlice tok rfl rfl rfl rfl rfl rfl rfl) ?_); rintro _ _ _ ⟨_, rfl, rfl, rfl⟩))
        exact run_sub' (hnext _ _ _ ⟨hlt, Mem.le_trans hM2 hM3, a3, x.2, ha3, hgo, by omega, rfl, rfl⟩) ⟨lk_succ rfl (by omega), rfl, rfl, rfl, rfl, rfl, rfl, trivial⟩
    · rintro ch M3 L3 ⟨hM3, hv⟩
      cases hst : stepS f aj.aa sj with
      | some x => rw [hst] at hv; cases hv.1
      | none =>
        rw [hst] at hv
        obtain ⟨hv, a3, rfl⟩ := hv
        rw [Ending.panicked.injEq] at hv
        subst hv
        rw [hst] at hgo
        refine runX_sub (hthrow M3 a3 (Mem.le_trans hle hM3) (fun b y hb => ?_)) ⟨rfl, rfl, rfl, trivial⟩
        have h1 := (one_iff.1 hb).2.2.2
        rw [hk, hgo] at h1
        cases h1
  · have hge : j = (partF k).length := by simp at h; omega
    subst hge
    rw [List.drop_length, goS] at hgo
    clear hnext
    have hone : chkA aj = 0 ↔ One s aj.aa sj := by
      rw [one_iff, hk, hgo, haj.iff]
      exact ⟨fun h => ⟨h0, h, haj.short h, rfl⟩, fun h => h.2.1⟩
    have hall : ∀ b y, One s b y → chkA aj = 0 := fun b y hb => by
      have h1 := (one_iff.1 hb).2.2.2
      rw [hk, hgo] at h1
      cases h1
      exact hone.2 hb
    repeat (first | with_reducible (first | refine cS ?_ | refine cR ?_ | refine cN ?_ | refine cK ?_ | refine cB ?_ | refine cI ?_) | refine cE rfl ?_ | refine rq (qt_pev tok rfl) ?_ | refine rg rfl rfl (qt_pev tok rfl) ?_ | refine rq (ql tok rfl) ?_ | refine rg rfl rfl (ql tok rfl) ?_ | (refine runL_op0 (sst tok rfl rfl rfl rfl rfl) ?_; rintro _ _ _ ⟨rfl, rfl, rfl⟩) | ((first | refine ro (st_box rfl) ?_ | refine ro (st_alloc tok rfl) ?_ | refine ro (st_buildSlice tok rfl rfl rfl rfl rfl rfl rfl) ?_); rintro _ _ _ ⟨_, rfl, rfl, rfl⟩) | refine prn_start mixed ?_ | refine prn_end (by decide +kernel) ?_ | refine pq rfl (qt_pev tok rfl) ?_ | refine pg rfl rfl rfl (qt_pev tok rfl) ?_ | refine pq rfl (ql tok rfl) ?_ | refine pg rfl rfl rfl (ql tok rfl) ?_ | (refine prn_e0 rfl (sst tok rfl rfl rfl rfl rfl) (by decide +kernel) ?_; rintro _ _ _ ⟨rfl, rfl, rfl⟩) | ((first | refine pe rfl (st_box rfl) ?_ | refine pe rfl (st_alloc tok rfl) ?_ | refine pe rfl (st_buildSlice tok rfl rfl rfl rfl rfl rfl rfl) ?_); rintro _ _ _ ⟨_, rfl, rfl, rfl⟩) | (refine prn_o0 rfl (sst tok rfl rfl rfl rfl rfl) (by decide +kernel) ?_; rintro _ _ _ ⟨rfl, rfl, rfl⟩; refine ⟨by (repeat (first | exact trivial | refine And.intro (pend_q rfl rfl rfl (qt_pev tok rfl)) ?_ | refine And.intro (pend_q rfl rfl rfl (ql tok rfl)) ?_)), ?_⟩) | ((first | refine po rfl (st_box rfl) ?_ | refine po rfl (st_alloc tok rfl) ?_ | refine po rfl (st_buildSlice tok rfl rfl rfl rfl rfl rfl rfl) ?_); rintro _ _ _ ⟨_, rfl, rfl, rfl⟩; refine ⟨by (repeat (first | exact trivial | refine And.intro (pend_q rfl rfl rfl (qt_pev tok rfl)) ?_ | refine And.intro (pend_q rfl rfl rfl (ql tok rfl)) ?_)), ?_⟩) | (refine pe rfl (qt_pev tok rfl) ?_; rintro _ _ _ ⟨rfl, rfl, rfl⟩) | refine prn_q rfl (qt_callF rfl (fun _ => scheck_ok _ _ aj haj.ok)) (by decide +kernel) rfl rfl rfl ?_)
    refine run_retX hro ?_
    refine runX_sub (σ' := [(4, .pointer (some ⟨bo, 0, none⟩)), (3, .string sj), (2, .pointer (some ⟨ba, 0, none⟩))]) ?_ ⟨rfl, rfl, rfl, trivial⟩
    refine runX_defer (args := [.pointer (some ⟨ba, 0, none⟩), .pointer (some ⟨bo, 0, none⟩)]) 17 (by simp) Try.func42 rfl rfl Try.call42 rfl rfl ?_
    intro a0 k0 q1 q2 q3
    refine run_seq ?_
    refine run_region ?_
    refine runL_recover0 rfl rfl rfl ?_
    repeat (first | with_reducible (first | refine cS ?_ | refine cR ?_ | refine cN ?_ | refine cK ?_ | refine cB ?_ | refine cI ?_) | refine cE rfl ?_ | refine rq (qt_pev tok rfl) ?_ | refine rg rfl rfl (qt_pev tok rfl) ?_ | refine rq (ql tok rfl) ?_ | refine rg rfl rfl (ql tok rfl) ?_ | (refine runL_op0 (sst tok rfl rfl rfl rfl rfl) ?_; rintro _ _ _ ⟨rfl, rfl, rfl⟩) | ((first | refine ro (st_box rfl) ?_ | refine ro (st_alloc tok rfl) ?_ | refine ro (st_buildSlice tok rfl rfl rfl rfl rfl rfl rfl) ?_); rintro _ _ _ ⟨_, rfl, rfl, rfl⟩) | refine runL_q (qt_neNil0 uAny rfl) rfl rfl rfl ?_)
    refine run_cond rfl (fun h => ?_) (fun _ => ?_)
    · cases h
    repeat (first | with_reducible (first | refine cS ?_ | refine cR ?_ | refine cN ?_ | refine cK ?_ | refine cB ?_ | refine cI ?_) | refine cE rfl ?_ | refine rq (qt_pev tok rfl) ?_ | refine rg rfl rfl (qt_pev tok rfl) ?_ | refine rq (ql tok rfl) ?_ | refine rg rfl rfl (ql tok rfl) ?_ | (refine runL_op0 (sst tok rfl rfl rfl rfl rfl) ?_; rintro _ _ _ ⟨rfl, rfl, rfl⟩) | ((first | refine ro (st_box rfl) ?_ | refine ro (st_alloc tok rfl) ?_ | refine ro (st_buildSlice tok rfl rfl rfl rfl rfl rfl rfl) ?_); rintro _ _ _ ⟨_, rfl, rfl, rfl⟩))
    refine run_endX rfl ?_
    refine runX_dret Try.func42 rfl q1 q2 q3 ?_
    show RunX _ _ _ .returning _ _ _ _
    refine runX_ret hC (rs := [.cell 2 37, .tmp 3, .cell 4 4]) rfl (resL (cs := axC aj) tok rfl (List.mem_cons_of_mem _ List.mem_cons_self) rfl (resT rfl (rl tok rfl resN))) (fun _ h => h.drop.drop.drop) ⟨_, rfl, hle, rfl, aj, sj, chkA aj == 0, rfl, haj, (fun h => hone.1 (by simpa using h)), fun h b y hb => by rw [hall b y hb] at h; cases h⟩
end Go.Proofs.Ytbpgiodfccijmaa
namespace Go.Proofs.Ytbpgiodfccijmaa
open Go.Chi

/-! ### script.Front, script.Decode -/
theorem axOne (r : Ax) : ∀ u ∈ axC r, u.oneCell' = true := by
  intro u hu
  simp only [axC, List.mem_cons, List.not_mem_nil, or_false] at hu
  rcases hu with rfl | rfl | rfl | rfl | rfl | rfl | rfl | rfl | rfl | rfl <;> rfl
theorem ax_all (xs : List Ax) : ∀ l ∈ xs.map axC, l.length = 10 := by intro l hl; obtain ⟨p, _, rfl⟩ := List.mem_map.1 hl; rfl
theorem axFlat (l : List Ax) (x : Ax) : (l.map axC).flatten ++ axC x = ((l ++ [x]).map axC).flatten := by simp
def sfrontK (s : ByteArray) (M : Mem) (L : HL) (v : Value) (M' : Mem) (L' : HL) : Prop :=
  M.le M' ∧ L' = L ∧ ∃ (sx : SAx) (y : ByteArray), v = .tuple ⟨[sx.v, .int .i64 ((s.size - y.size : Nat) : Int)]⟩ ∧ SaW M' sx ∧ Fr s (sx.xs.map Ax.aa) y ∧ y.size ≤ s.size
set_option maxRecDepth 10000 in
set_option maxHeartbeats 16000000 in
theorem sfront_ok (M : Mem) (L : HL) (s : ByteArray) (hs : s.size < 1000000) : Tr Try.prog 15 [.string s] M L (sfrontK s M L) := by
  refine Tr.intro 31 Try.func15 rfl rfl Try.call15 rfl ?_
  intro C hC hro
  repeat (first | with_reducible (first | refine cS ?_ | refine cR ?_ | refine cN ?_ | refine cK ?_ | refine cB ?_ | refine cI ?_) | refine cE rfl ?_ | refine rq (qt_pev tok rfl) ?_ | refine rg rfl rfl (qt_pev tok rfl) ?_ | refine rq (ql tok rfl) ?_ | refine rg rfl rfl (ql tok rfl) ?_ | (refine runL_op0 (sst tok rfl rfl rfl rfl rfl) ?_; rintro _ _ _ ⟨rfl, rfl, rfl⟩) | ((first | refine ro (st_box rfl) ?_ | refine ro (st_alloc tok rfl) ?_ | refine ro (st_buildSlice tok rfl rfl rfl rfl rfl rfl rfl) ?_); rintro _ _ _ ⟨_, rfl, rfl, rfl⟩))
  refine run_loopN (fun j σ1 M2 L1 => j ≤ s.size ∧ ∃ (xs : List Ax) (sj : ByteArray) (v : Value) (N : HL), xs.length = j ∧ j + sj.size ≤ s.size ∧ (∀ l y, Fr sj l y → Fr s (xs.map Ax.aa ++ l) y) ∧ M.le M2 ∧ (∀ x ∈ xs, AxW M2 x) ∧ OS 37 10 v j (xs.map axC).flatten N ∧ L1 = N ++ L ∧ σ1 = [(0, .string sj), (2, v), (3, .int .i64 ((s.size - sj.size : Nat) : Int))]) s.size [(0, .string s), (2, .slice none 0 0), (3, .int .i64 ((s.size - s.size : Nat) : Int))] ?_ ⟨Nat.zero_le _, [], s, .slice none 0 0, [], rfl, by omega, (fun l y h => h), Mem.le_refl _, (fun x hx => by cases hx), OS.nil _ _, rfl, rfl⟩ (fun j _ _ _ h => h.1) ?_
  · exact ⟨rfl, rfl, by rw [Nat.sub_self]; rfl, trivial⟩
  rintro j _ M2 _ ⟨hj, xs, sj, v, N, hxl, hjs, hfr, hM2, haw, hO, rfl, rfl⟩ hnext
  repeat (first | with_reducible (first | refine cS ?_ | refine cR ?_ | refine cN ?_ | refine cK ?_ | refine cB ?_ | refine cI ?_) | refine cE rfl ?_ | refine rq (qt_pev tok rfl) ?_ | refine rg rfl rfl (qt_pev tok rfl) ?_ | refine rq (ql tok rfl) ?_ | refine rg rfl rfl (ql tok rfl) ?_ | (refine runL_op0 (sst tok rfl rfl rfl rfl rfl) ?_; rintro _ _ _ ⟨rfl, rfl, rfl⟩) | ((first | refine ro (st_box rfl) ?_ | refine ro (st_alloc tok rfl) ?_ | refine ro (st_buildSlice tok rfl rfl rfl rfl rfl rfl rfl) ?_); rintro _ _ _ ⟨_, rfl, rfl, rfl⟩))
  refine run_cond rfl (fun h => ?_) (fun h => ?_)
  rotate_left
  · have h0 : sj.size = 0 := by
      have h1 : (sj.toList == (⟨#[]⟩ : ByteArray).toList) = true := by simpa using h
      rw [empty_beq] at h1
      simpa using h1
    have hno : ∀ a x, ¬ One sj a x := fun a x hx => (one_iff.1 hx).1 h0
    clear hnext
    refine run_exit rfl ?_
    refine run_memE (fun M' L' => M2.le M' ∧ ∃ sa cp, v = .slice sa j cp ∧ SlM M' 10 sa j (xs.map axC) ∧ L' = L) (fun w hw => ?_) ?_
    · obtain ⟨M', a', c', h1, h2, h3, h4⟩ := hw.freezeOS hO (by simpa using hxl) (ax_all xs)
      exact ⟨M', _, h2, h1, a', c', h3, h4, rfl⟩
    rintro M4 _ ⟨hM4, sa, cp, rfl, hsl, rfl⟩
    repeat (first | with_reducible (first | refine cS ?_ | refine cR ?_ | refine cN ?_ | refine cK ?_ | refine cB ?_ | refine cI ?_) | refine cE rfl ?_ | refine rq (qt_pev tok rfl) ?_ | refine rg rfl rfl (qt_pev tok rfl) ?_ | refine rq (ql tok rfl) ?_ | refine rg rfl rfl (ql tok rfl) ?_ | (refine runL_op0 (sst tok rfl rfl rfl rfl rfl) ?_; rintro _ _ _ ⟨rfl, rfl, rfl⟩) | ((first | refine ro (st_box rfl) ?_ | refine ro (st_alloc tok rfl) ?_ | refine ro (st_buildSlice tok rfl rfl rfl rfl rfl rfl rfl) ?_); rintro _ _ _ ⟨_, rfl, rfl, rfl⟩))
    exact run_ret hC (rs := [.tmp 2, .tmp 3]) rfl (resT rfl (resT rfl resN)) (fun _ h => h) ⟨Mem.le_trans hM2 hM4, rfl, ⟨sa, j, cp, xs⟩, sj, rfl, ⟨hsl, by show j < 1000000; omega, fun y hy => (haw y hy).le hM4⟩, by have := hfr [] sj (Fr.nil _ hno); rwa [List.append_nil] at this, by omega⟩
  have h0 : sj.size ≠ 0 := by
    have h1 : (sj.toList == (⟨#[]⟩ : ByteArray).toList) = false := by simpa using h
    rw [empty_beq] at h1
    simpa using h1
  repeat (first | with_reducible (first | refine cS ?_ | refine cR ?_ | refine cN ?_ | refine cK ?_ | refine cB ?_ | refine cI ?_) | refine cE rfl ?_ | refine rq (qt_pev tok rfl) ?_ | refine rg rfl rfl (qt_pev tok rfl) ?_ | refine rq (ql tok rfl) ?_ | refine rg rfl rfl (ql tok rfl) ?_ | (refine runL_op0 (sst tok rfl rfl rfl rfl rfl) ?_; rintro _ _ _ ⟨rfl, rfl, rfl⟩) | ((first | refine ro (st_box rfl) ?_ | refine ro (st_alloc tok rfl) ?_ | refine ro (st_buildSlice tok rfl rfl rfl rfl rfl rfl rfl) ?_); rintro _ _ _ ⟨_, rfl, rfl, rfl⟩) | refine runL_op (st_callF rfl (fun _ => sone_ok M2 _ sj h0 (by omega))) rfl rfl rfl ?_; rintro _ M3 _ ⟨hM3, rfl, a, x, ok, rfl, ha, ht, hf⟩)
  rename_i b4
  refine run_cond rfl (fun h => ?_) (fun h => ?_)
  · have hok : ok = false := by simpa using h
    have hno := hf hok
    clear hnext
    refine run_exit rfl ?_
    refine run_mem (fun _ h => h.drop) ?_
    have haw : ∀ x ∈ xs, AxW M3 x := fun y hy => (haw y hy).le hM3
    have hM2 := Mem.le_trans hM2 hM3
    refine run_memE (fun M' L' => M3.le M' ∧ ∃ sa cp, v = .slice sa j cp ∧ SlM M' 10 sa j (xs.map axC) ∧ L' = L) (fun w hw => ?_) ?_
    · obtain ⟨M', a', c', h1, h2, h3, h4⟩ := hw.freezeOS hO (by simpa using hxl) (ax_all xs)
      exact ⟨M', _, h2, h1, a', c', h3, h4, rfl⟩
    rintro M4 _ ⟨hM4, sa, cp, rfl, hsl, rfl⟩
    repeat (first | with_reducible (first | refine cS ?_ | refine cR ?_ | refine cN ?_ | refine cK ?_ | refine cB ?_ | refine cI ?_) | refine cE rfl ?_ | refine rq (qt_pev tok rfl) ?_ | refine rg rfl rfl (qt_pev tok rfl) ?_ | refine rq (ql tok rfl) ?_ | refine rg rfl rfl (ql tok rfl) ?_ | (refine runL_op0 (sst tok rfl rfl rfl rfl rfl) ?_; rintro _ _ _ ⟨rfl, rfl, rfl⟩) | ((first | refine ro (st_box rfl) ?_ | refine ro (st_alloc tok rfl) ?_ | refine ro (st_buildSlice tok rfl rfl rfl rfl rfl rfl rfl) ?_); rintro _ _ _ ⟨_, rfl, rfl, rfl⟩))
    exact run_ret hC (rs := [.tmp 2, .tmp 3]) rfl (resT rfl (resT rfl resN)) (fun _ h => h) ⟨Mem.le_trans hM2 hM4, rfl, ⟨sa, j, cp, xs⟩, sj, rfl, ⟨hsl, by show j < 1000000; omega, fun y hy => (haw y hy).le hM4⟩, by have := hfr [] sj (Fr.nil _ hno); rwa [List.append_nil] at this, by omega⟩
  have hok : ok = true := by simpa using h
  have hone := ht hok
  have hsz : x.size < sj.size := by
    have := hone.2.2
    rw [this, app_size, actB_size]; omega
  have e1 : IntKind.i64.wrap (((s.size - sj.size : Nat) : Int) + IntKind.i64.wrap ((sj.size : Int) - (x.size : Int))) = ((s.size - x.size : Nat) : Int) := by
    rw [show (sj.size : Int) - (x.size : Int) = ((sj.size - x.size : Nat) : Int) by omega, wrap64_nat (by omega), show ((s.size - sj.size : Nat) : Int) + ((sj.size - x.size : Nat) : Int) = ((s.size - x.size : Nat) : Int) by omega, wrap64_nat (by omega)]
  repeat (first | with_reducible (first | refine cS ?_ | refine cR ?_ | refine cN ?_ | refine cK ?_ | refine cB ?_ | refine cI ?_) | refine cE rfl ?_ | refine rq (qt_pev tok rfl) ?_ | refine rg rfl rfl (qt_pev tok rfl) ?_ | refine rq (ql tok rfl) ?_ | refine rg rfl rfl (ql tok rfl) ?_ | (refine runL_op0 (sst tok rfl rfl rfl rfl rfl) ?_; rintro _ _ _ ⟨rfl, rfl, rfl⟩) | ((first | refine ro (st_box rfl) ?_ | refine ro (st_alloc tok rfl) ?_ | refine ro (st_buildSlice tok rfl rfl rfl rfl rfl rfl rfl) ?_); rintro _ _ _ ⟨_, rfl, rfl, rfl⟩))
  refine runL_as 3 (.int .i64 ((s.size - x.size : Nat) : Int)) rfl (by rw [e1]) ?_
  refine runL_op (st_append (n := j) (m := 1) (news := axC a) tok rfl rfl rfl rfl rfl rfl rfl rfl (pm2 _ _ N _) hO (.inr ⟨_, 0, 1, rfl, cellsAll List.mem_cons_self, rfl⟩) (axOne a) (by omega) (by omega)) rfl rfl rfl ?_
  rintro v2 _ _ ⟨N', rfl, rfl, hO'⟩
  repeat (first | with_reducible (first | refine cS ?_ | refine cR ?_ | refine cN ?_ | refine cK ?_ | refine cB ?_ | refine cI ?_) | refine cE rfl ?_ | refine rq (qt_pev tok rfl) ?_ | refine rg rfl rfl (qt_pev tok rfl) ?_ | refine rq (ql tok rfl) ?_ | refine rg rfl rfl (ql tok rfl) ?_ | (refine runL_op0 (sst tok rfl rfl rfl rfl rfl) ?_; rintro _ _ _ ⟨rfl, rfl, rfl⟩) | ((first | refine ro (st_box rfl) ?_ | refine ro (st_alloc tok rfl) ?_ | refine ro (st_buildSlice tok rfl rfl rfl rfl rfl rfl rfl) ?_); rintro _ _ _ ⟨_, rfl, rfl, rfl⟩))
  refine run_mem (fun _ h => (h.perm (pm2 _ _ N' _).symm).drop.drop) ?_
  refine run_sub' (hnext _ _ _ ⟨by omega, xs ++ [a], x, v2, N', by simp [hxl], by omega, ?_, Mem.le_trans hM2 hM3, ?_, by rw [← axFlat]; exact hO', rfl, rfl⟩) ⟨rfl, rfl, rfl, trivial⟩
  · intro l y hl
    rw [List.map_append, List.append_assoc]
    exact hfr (a.aa :: l) y (Fr.cons _ _ _ _ _ hone hl)
  · intro y hy
    rcases List.mem_append.1 hy with hy | hy
    · exact (haw y hy).le hM3
    · rw [List.mem_singleton.1 hy]; exact ha
/-- what script.Decode answers -/
def sdecK (s : ByteArray) (M : Mem) (L : HL) (v : Value) (M' : Mem) (L' : HL) : Prop :=
  M.le M' ∧ L' = L ∧ ∃ (sx : SAx) (e : Int), v = .tuple ⟨[sx.v, .int .i64 e]⟩ ∧ SaW M' sx ∧ ((e = 5 ∧ sx.xs = [] ∧ 65536 < s.size) ∨ (s.size ≤ 65536 ∧ ∃ l y, Fr s l y ∧ ((e = 7 ∧ sx.xs = [] ∧ y.size ≠ 0) ∨ (e = 0 ∧ y.size = 0 ∧ sx.xs.map Ax.aa = l))))
set_option maxRecDepth 10000 in
set_option maxHeartbeats 16000000 in
theorem sdecode_ok (M : Mem) (L : HL) (s : ByteArray) (hs : s.size < 4611686018427387904) : Tr Try.prog 17 [.string s] M L (sdecK s M L) := by
  have hnil : ∀ M' : Mem, SaW M' ⟨none, 0, 0, []⟩ := fun M' => ⟨SlM.nil _ _ _, by show 0 < 1000000; decide, fun x hx => by cases hx⟩
  refine Tr.intro 19 Try.func17 rfl rfl Try.call17 rfl ?_
  intro C hC hro
  repeat (first | with_reducible (first | refine cS ?_ | refine cR ?_ | refine cN ?_ | refine cK ?_ | refine cB ?_ | refine cI ?_) | refine cE rfl ?_ | refine rq (qt_pev tok rfl) ?_ | refine rg rfl rfl (qt_pev tok rfl) ?_ | refine rq (ql tok rfl) ?_ | refine rg rfl rfl (ql tok rfl) ?_ | (refine runL_op0 (sst tok rfl rfl rfl rfl rfl) ?_; rintro _ _ _ ⟨rfl, rfl, rfl⟩) | ((first | refine ro (st_box rfl) ?_ | refine ro (st_alloc tok rfl) ?_ | refine ro (st_buildSlice tok rfl rfl rfl rfl rfl rfl rfl) ?_); rintro _ _ _ ⟨_, rfl, rfl, rfl⟩))
  refine run_cond rfl (fun h => ?_) (fun h => ?_)
  · have h1 : 65536 < s.size := by have := of_decide_eq_true h; omega
    repeat (first | with_reducible (first | refine cS ?_ | refine cR ?_ | refine cN ?_ | refine cK ?_ | refine cB ?_ | refine cI ?_) | refine cE rfl ?_ | refine rq (qt_pev tok rfl) ?_ | refine rg rfl rfl (qt_pev tok rfl) ?_ | refine rq (ql tok rfl) ?_ | refine rg rfl rfl (ql tok rfl) ?_ | (refine runL_op0 (sst tok rfl rfl rfl rfl rfl) ?_; rintro _ _ _ ⟨rfl, rfl, rfl⟩) | ((first | refine ro (st_box rfl) ?_ | refine ro (st_alloc tok rfl) ?_ | refine ro (st_buildSlice tok rfl rfl rfl rfl rfl rfl rfl) ?_); rintro _ _ _ ⟨_, rfl, rfl, rfl⟩))
    exact run_ret hC (rs := [.tmp 2, .tmp 3]) rfl (resT rfl (resT rfl resN)) (fun _ h => h) ⟨Mem.le_refl _, rfl, ⟨none, 0, 0, []⟩, 5, rfl, hnil _, .inl ⟨rfl, rfl, h1⟩⟩
  have h1 : s.size ≤ 65536 := by have := of_decide_eq_false h; omega
  repeat (first | with_reducible (first | refine cS ?_ | refine cR ?_ | refine cN ?_ | refine cK ?_ | refine cB ?_ | refine cI ?_) | refine cE rfl ?_ | refine rq (qt_pev tok rfl) ?_ | refine rg rfl rfl (qt_pev tok rfl) ?_ | refine rq (ql tok rfl) ?_ | refine rg rfl rfl (ql tok rfl) ?_ | (refine runL_op0 (sst tok rfl rfl rfl rfl rfl) ?_; rintro _ _ _ ⟨rfl, rfl, rfl⟩) | ((first | refine ro (st_box rfl) ?_ | refine ro (st_alloc tok rfl) ?_ | refine ro (st_buildSlice tok rfl rfl rfl rfl rfl rfl rfl) ?_); rintro _ _ _ ⟨_, rfl, rfl, rfl⟩) | refine runL_op (st_callF rfl (fun _ => sfront_ok M _ s (by omega))) rfl rfl rfl ?_; rintro _ M1 _ ⟨hM1, rfl, sx, y, rfl, hsx, hfr, hy⟩)
  refine run_cond rfl (fun h => ?_) (fun h => ?_)
  · have h2 : y.size ≠ 0 := by simp at h; omega
    repeat (first | with_reducible (first | refine cS ?_ | refine cR ?_ | refine cN ?_ | refine cK ?_ | refine cB ?_ | refine cI ?_) | refine cE rfl ?_ | refine rq (qt_pev tok rfl) ?_ | refine rg rfl rfl (qt_pev tok rfl) ?_ | refine rq (ql tok rfl) ?_ | refine rg rfl rfl (ql tok rfl) ?_ | (refine runL_op0 (sst tok rfl rfl rfl rfl rfl) ?_; rintro _ _ _ ⟨rfl, rfl, rfl⟩) | ((first | refine ro (st_box rfl) ?_ | refine ro (st_alloc tok rfl) ?_ | refine ro (st_buildSlice tok rfl rfl rfl rfl rfl rfl rfl) ?_); rintro _ _ _ ⟨_, rfl, rfl, rfl⟩))
    exact run_ret hC (rs := [.tmp 2, .tmp 3]) rfl (resT rfl (resT rfl resN)) (fun _ h => h) ⟨hM1, rfl, ⟨none, 0, 0, []⟩, 7, rfl, hnil _, .inr ⟨h1, _, y, hfr, .inl ⟨rfl, rfl, h2⟩⟩⟩
  · have h2 : y.size = 0 := by simp at h; omega
    repeat (first | with_reducible (first | refine cS ?_ | refine cR ?_ | refine cN ?_ | refine cK ?_ | refine cB ?_ | refine cI ?_) | refine cE rfl ?_ | refine rq (qt_pev tok rfl) ?_ | refine rg rfl rfl (qt_pev tok rfl) ?_ | refine rq (ql tok rfl) ?_ | refine rg rfl rfl (ql tok rfl) ?_ | (refine runL_op0 (sst tok rfl rfl rfl rfl rfl) ?_; rintro _ _ _ ⟨rfl, rfl, rfl⟩) | ((first | refine ro (st_box rfl) ?_ | refine ro (st_alloc tok rfl) ?_ | refine ro (st_buildSlice tok rfl rfl rfl rfl rfl rfl rfl) ?_); rintro _ _ _ ⟨_, rfl, rfl, rfl⟩))
    exact run_ret hC (rs := [.tmp 2, .tmp 3]) rfl (resT rfl (resT rfl resN)) (fun _ h => h) ⟨hM1, rfl, sx, 0, rfl, hsx, .inr ⟨h1, _, y, hfr, .inr ⟨rfl, h2, rfl⟩⟩⟩
end Go.Proofs.Ytbpgiodfccijmaa
namespace Go.Proofs.Ytbpgiodfccijmaa
open Go.Chi

/-! ### the document's small answers; its taker: a number, a text -/
def isT (t : ByteArray) : Bool := checkR t == 0
theorem ref06May_ok (M : Mem) (L : HL) (t : ByteArray) (ht : t.size < 4611686018427387904) : TrQ Try.prog 31 [.string t] M L (.bool (isT t)) := by
  refine Tr.intro 6 Try.func31 rfl rfl Try.call31 rfl ?_
  intro C hC hro
  repeat (first | with_reducible (first | refine cS ?_ | refine cR ?_ | refine cN ?_ | refine cK ?_ | refine cB ?_ | refine cI ?_) | refine cE rfl ?_ | refine rq (qt_pev tok rfl) ?_ | refine rg rfl rfl (qt_pev tok rfl) ?_ | refine rq (ql tok rfl) ?_ | refine rg rfl rfl (ql tok rfl) ?_ | (refine runL_op0 (sst tok rfl rfl rfl rfl rfl) ?_; rintro _ _ _ ⟨rfl, rfl, rfl⟩) | ((first | refine ro (st_box rfl) ?_ | refine ro (st_alloc tok rfl) ?_ | refine ro (st_buildSlice tok rfl rfl rfl rfl rfl rfl rfl) ?_); rintro _ _ _ ⟨_, rfl, rfl, rfl⟩) | refine runL_q (qt_callF rfl (fun _ => refCheck_ok _ _ t ht)) rfl rfl rfl ?_)
  exact run_ret hC (rs := [.tmp 2]) rfl (resT rfl resN) (fun _ h => h) ⟨by rw [isT, ← refCheck_eq _ ht]; rfl, rfl, rfl⟩
theorem refOrg_ok (M : Mem) (L : HL) (n : Int) : TrQ Try.prog 28 [.int .i64 n] M L (.bool (orgW n)) := by
  refine Tr.intro 9 Try.func28 rfl rfl Try.call28 rfl ?_
  intro C hC hro
  repeat (first | with_reducible (first | refine cS ?_ | refine cR ?_ | refine cN ?_ | refine cK ?_ | refine cB ?_ | refine cI ?_) | refine cE rfl ?_ | refine rq (qt_pev tok rfl) ?_ | refine rg rfl rfl (qt_pev tok rfl) ?_ | refine rq (ql tok rfl) ?_ | refine rg rfl rfl (ql tok rfl) ?_ | (refine runL_op0 (sst tok rfl rfl rfl rfl rfl) ?_; rintro _ _ _ ⟨rfl, rfl, rfl⟩) | ((first | refine ro (st_box rfl) ?_ | refine ro (st_alloc tok rfl) ?_ | refine ro (st_buildSlice tok rfl rfl rfl rfl rfl rfl rfl) ?_); rintro _ _ _ ⟨_, rfl, rfl, rfl⟩))
  exact run_ret hC (rs := [.tmp 2]) rfl (resT rfl resN) (fun _ h => h) ⟨rfl, rfl, rfl⟩
theorem refTx_ok (M : Mem) (L : HL) (t : Tx) : TrQ Try.prog 30 [.agg ⟨txC t⟩] M L (.bool (mayTx t)) := by
  refine Tr.intro 26 Try.func30 rfl rfl Try.call30 rfl ?_
  intro C hC hro
  repeat (first | with_reducible (first | refine cS ?_ | refine cR ?_ | refine cN ?_ | refine cK ?_ | refine cB ?_ | refine cI ?_) | refine cE rfl ?_ | refine rq (qt_pev tok rfl) ?_ | refine rg rfl rfl (qt_pev tok rfl) ?_ | refine rq (ql tok rfl) ?_ | refine rg rfl rfl (ql tok rfl) ?_ | (refine runL_op0 (sst tok rfl rfl rfl rfl rfl) ?_; rintro _ _ _ ⟨rfl, rfl, rfl⟩) | ((first | refine ro (st_box rfl) ?_ | refine ro (st_alloc tok rfl) ?_ | refine ro (st_buildSlice tok rfl rfl rfl rfl rfl rfl rfl) ?_); rintro _ _ _ ⟨_, rfl, rfl, rfl⟩) | refine runL_q (qt_callF rfl (fun _ => refOrg_ok _ _ _)) rfl rfl rfl ?_)
  exact run_ret hC (rs := [.tmp 2]) rfl (resT rfl resN) (fun _ h => h.drop) ⟨rfl, rfl, rfl⟩
theorem refNm_ok (M : Mem) (L : HL) (n : Int) : TrQ Try.prog 29 [.int .i64 n] M L (.bool (nmW n)) := by
  refine Tr.intro 9 Try.func29 rfl rfl Try.call29 rfl ?_
  intro C hC hro
  repeat (first | with_reducible (first | refine cS ?_ | refine cR ?_ | refine cN ?_ | refine cK ?_ | refine cB ?_ | refine cI ?_) | refine cE rfl ?_ | refine rq (qt_pev tok rfl) ?_ | refine rg rfl rfl (qt_pev tok rfl) ?_ | refine rq (ql tok rfl) ?_ | refine rg rfl rfl (ql tok rfl) ?_ | (refine runL_op0 (sst tok rfl rfl rfl rfl rfl) ?_; rintro _ _ _ ⟨rfl, rfl, rfl⟩) | ((first | refine ro (st_box rfl) ?_ | refine ro (st_alloc tok rfl) ?_ | refine ro (st_buildSlice tok rfl rfl rfl rfl rfl rfl rfl) ?_); rintro _ _ _ ⟨_, rfl, rfl, rfl⟩))
  exact run_ret hC (rs := [.tmp 2]) rfl (resT rfl resN) (fun _ h => h) ⟨rfl, rfl, rfl⟩
/-- the taker: what is left, and whether all went well so far -/
abbrev Tk := ByteArray × Bool
def tkC (c : Tk) : List Value := [.string c.1, .bool c.2]
abbrev tkB (bc : Nat) (c : Tk) : Nat × Obj := (bc, .cells ⟨tkC c⟩ 67 (0, 0))
def kN (c : Tk) : Int × Tk := if (c.2 = true ∧ (numR c.1).2.2 = 0) ∧ (numR c.1).1 ≤ 2147483647 then ((numR c.1).1, (c.1.extract (numR c.1).2.1.toNat c.1.size, true)) else (0, (c.1, false))
def kT (most : Nat) (c : Tk) : ByteArray × Tk := if c.2 = true ∧ (textR c.1 most).2.2 = 0 then ((textR c.1 most).1, (c.1.extract (textR c.1 most).2.1.toNat c.1.size, true)) else (⟨#[]⟩, (c.1, false))
theorem kN_pN (s : ByteArray) : kN (s, true) = match pN 2147483647 s with | some x => (x.1, (x.2, true)) | none => (0, (s, false)) := by
  unfold kN pN
  by_cases h : (numR s).2.2 = 0 ∧ (numR s).1 ≤ ((2147483647 : Nat) : Int)
  · rw [if_pos h, if_pos ⟨⟨rfl, h.1⟩, h.2⟩]
  · rw [if_neg h, if_neg fun e => h ⟨e.1.2, e.2⟩]
theorem kN_bad (s : ByteArray) : kN (s, false) = (0, (s, false)) := by
  unfold kN
  rw [if_neg fun e => by cases e.1.1]
theorem kT_pT (most : Nat) (s : ByteArray) : kT most (s, true) = match pTm most s with | some x => (x.1, (x.2, true)) | none => (⟨#[]⟩, (s, false)) := by
  unfold kT pTm
  by_cases h : (textR s most).2.2 = 0
  · rw [if_pos h, if_pos ⟨rfl, h⟩]
  · rw [if_neg h, if_neg fun e => h e.2]
theorem kT_bad (most : Nat) (s : ByteArray) : kT most (s, false) = (⟨#[]⟩, (s, false)) := by
  unfold kT
  rw [if_neg fun e => by cases e.1]
theorem kN_size (c : Tk) : (kN c).2.1.size ≤ c.1.size := by
  unfold kN
  split
  · show (c.1.extract _ _).size ≤ _
    simp
  · exact Nat.le_refl _
theorem kT_size (most : Nat) (c : Tk) : (kT most c).2.1.size ≤ c.1.size := by
  unfold kT
  split
  · show (c.1.extract _ _).size ≤ _
    simp
  · exact Nat.le_refl _
theorem kN_nat (c : Tk) : ∃ n : Nat, (kN c).1 = n ∧ n ≤ 2147483647 := by
  have := numR_pos c.1
  unfold kN
  split
  · rename_i h
    exact ⟨(numR c.1).1.toNat, by show (numR c.1).1 = _; omega, by omega⟩
  · exact ⟨0, rfl, Nat.zero_le _⟩
set_option maxRecDepth 10000 in
set_option maxHeartbeats 8000000 in
theorem tnum_ok (M : Mem) (L : HL) (bc : Nat) (c : Tk) :
    Tr Try.prog 43 [.pointer (some ⟨bc, 0, none⟩)] M (tkB bc c :: L) (fun v M' L' => v = .int .i64 (kN c).1 ∧ M = M' ∧ L' = tkB bc (kN c).2 :: L) := by
  have hnp := numR_pos c.1
  refine Tr.intro 42 Try.func43 rfl rfl Try.call43 rfl ?_
  intro C hC hro
  repeat (first | with_reducible (first | refine cS ?_ | refine cR ?_ | refine cN ?_ | refine cK ?_ | refine cB ?_ | refine cI ?_) | refine cE rfl ?_ | refine rq (qt_pev tok rfl) ?_ | refine rg rfl rfl (qt_pev tok rfl) ?_ | refine rq (ql tok rfl) ?_ | refine rg rfl rfl (ql tok rfl) ?_ | (refine runL_op0 (sst tok rfl rfl rfl rfl rfl) ?_; rintro _ _ _ ⟨rfl, rfl, rfl⟩) | ((first | refine ro (st_box rfl) ?_ | refine ro (st_alloc tok rfl) ?_ | refine ro (st_buildSlice tok rfl rfl rfl rfl rfl rfl rfl) ?_); rintro _ _ _ ⟨_, rfl, rfl, rfl⟩) | refine runL_q (qt_callF rfl (fun _ => refNum_ok _ _ c.1)) rfl rfl rfl ?_)
  have hcond : ∀ t : Bool, (((!c.2) || ((refNum c.1).2.2 != 0)) || decide ((refNum c.1).1 > 2147483647)) = t → (t = false ↔ ((c.2 = true ∧ (numR c.1).2.2 = 0) ∧ (numR c.1).1 ≤ 2147483647)) := by
    rintro _ rfl
    rw [refNum_eq]
    simp only [Bool.or_eq_false_iff, Bool.not_eq_false', bne_eq_false_iff_eq, decide_eq_false_iff_not]
    constructor
    · rintro ⟨h1, h2⟩; exact ⟨h1, by omega⟩
    · rintro ⟨h1, h2⟩; exact ⟨h1, by omega⟩
  refine run_cond rfl (fun h => ?_) (fun h => ?_)
  · have h1 : ¬ ((c.2 = true ∧ (numR c.1).2.2 = 0) ∧ (numR c.1).1 ≤ 2147483647) := fun e => by have := (hcond true h).2 e; cases this
    repeat (first | with_reducible (first | refine cS ?_ | refine cR ?_ | refine cN ?_ | refine cK ?_ | refine cB ?_ | refine cI ?_) | refine cE rfl ?_ | refine rq (qt_pev tok rfl) ?_ | refine rg rfl rfl (qt_pev tok rfl) ?_ | refine rq (ql tok rfl) ?_ | refine rg rfl rfl (ql tok rfl) ?_ | (refine runL_op0 (sst tok rfl rfl rfl rfl rfl) ?_; rintro _ _ _ ⟨rfl, rfl, rfl⟩) | ((first | refine ro (st_box rfl) ?_ | refine ro (st_alloc tok rfl) ?_ | refine ro (st_buildSlice tok rfl rfl rfl rfl rfl rfl rfl) ?_); rintro _ _ _ ⟨_, rfl, rfl, rfl⟩))
    exact run_ret hC (rs := [.tmp 2]) rfl (resT rfl resN) (fun _ h => h) ⟨by rw [kN, if_neg h1]; rfl, rfl, by rw [kN, if_neg h1]; rfl⟩
  · have h1 := (hcond false h).1 rfl
    obtain ⟨m, hm1, hm2, hm3⟩ := numR_len c.1 h1.1.2
    refine run_skip ?_
    repeat (first | with_reducible (first | refine cS ?_ | refine cR ?_ | refine cN ?_ | refine cK ?_ | refine cB ?_ | refine cI ?_) | refine cE rfl ?_ | refine rq (qt_pev tok rfl) ?_ | refine rg rfl rfl (qt_pev tok rfl) ?_ | refine rq (ql tok rfl) ?_ | refine rg rfl rfl (ql tok rfl) ?_ | (refine runL_op0 (sst tok rfl rfl rfl rfl rfl) ?_; rintro _ _ _ ⟨rfl, rfl, rfl⟩) | ((first | refine ro (st_box rfl) ?_ | refine ro (st_alloc tok rfl) ?_ | refine ro (st_buildSlice tok rfl rfl rfl rfl rfl rfl rfl) ?_); rintro _ _ _ ⟨_, rfl, rfl, rfl⟩))
    refine runL_as 36 (.int .i64 (m : Int)) rfl (by rw [refNum_eq, hm1]) ?_
    repeat (first | with_reducible (first | refine cS ?_ | refine cR ?_ | refine cN ?_ | refine cK ?_ | refine cB ?_ | refine cI ?_) | refine cE rfl ?_ | refine rq (qt_pev tok rfl) ?_ | refine rg rfl rfl (qt_pev tok rfl) ?_ | refine rq (ql tok rfl) ?_ | refine rg rfl rfl (ql tok rfl) ?_ | (refine runL_op0 (sst tok rfl rfl rfl rfl rfl) ?_; rintro _ _ _ ⟨rfl, rfl, rfl⟩) | ((first | refine ro (st_box rfl) ?_ | refine ro (st_alloc tok rfl) ?_ | refine ro (st_buildSlice tok rfl rfl rfl rfl rfl rfl rfl) ?_); rintro _ _ _ ⟨_, rfl, rfl, rfl⟩) | refine runL_q (qt_strLo (n := m) tok rfl rfl rfl (fun _ => hm3)) rfl rfl rfl ?_)
    have e2 : IntKind.i64.wrap (numR c.1).1 = (numR c.1).1 := by
      obtain ⟨x, hx⟩ : ∃ x : Nat, (numR c.1).1 = x := ⟨(numR c.1).1.toNat, by omega⟩
      rw [hx, wrap64_nat (by omega)]
    refine run_ret hC (rs := [.tmp 2]) rfl (resT rfl resN) (fun _ h => h) ⟨?_, rfl, ?_⟩
    · rw [kN, if_pos h1, refNum_eq, e2]; rfl
    · rw [kN, if_pos h1, hm1, h1.1.1.symm]; rfl
set_option maxRecDepth 10000 in
set_option maxHeartbeats 8000000 in
theorem ttext_ok (M : Mem) (L : HL) (bc : Nat) (c : Tk) (most : Nat) (hm : most < 4611686018427387904) (hs : c.1.size < 4611686018427387904) :
    Tr Try.prog 44 [.pointer (some ⟨bc, 0, none⟩), .int .i64 (most : Int)] M (tkB bc c :: L) (fun v M' L' => v = .string (kT most c).1 ∧ M = M' ∧ L' = tkB bc (kT most c).2 :: L) := by
  refine Tr.intro 40 Try.func44 rfl rfl Try.call44 rfl ?_
  intro C hC hro
  repeat (first | with_reducible (first | refine cS ?_ | refine cR ?_ | refine cN ?_ | refine cK ?_ | refine cB ?_ | refine cI ?_) | refine cE rfl ?_ | refine rq (qt_pev tok rfl) ?_ | refine rg rfl rfl (qt_pev tok rfl) ?_ | refine rq (ql tok rfl) ?_ | refine rg rfl rfl (ql tok rfl) ?_ | (refine runL_op0 (sst tok rfl rfl rfl rfl rfl) ?_; rintro _ _ _ ⟨rfl, rfl, rfl⟩) | ((first | refine ro (st_box rfl) ?_ | refine ro (st_alloc tok rfl) ?_ | refine ro (st_buildSlice tok rfl rfl rfl rfl rfl rfl rfl) ?_); rintro _ _ _ ⟨_, rfl, rfl, rfl⟩) | refine runL_q (qt_callF rfl (fun _ => refText_ok _ _ c.1 most hs hm)) rfl rfl rfl ?_)
  have hcond : ∀ t : Bool, ((!c.2) || ((refText c.1 most).2.2 != 0)) = t → (t = false ↔ (c.2 = true ∧ (textR c.1 most).2.2 = 0)) := by
    rintro _ rfl
    rw [refText_eq]
    simp only [Bool.or_eq_false_iff, Bool.not_eq_false', bne_eq_false_iff_eq]
  refine run_cond rfl (fun h => ?_) (fun h => ?_)
  · have h1 : ¬ (c.2 = true ∧ (textR c.1 most).2.2 = 0) := fun e => by have := (hcond true h).2 e; cases this
    repeat (first | with_reducible (first | refine cS ?_ | refine cR ?_ | refine cN ?_ | refine cK ?_ | refine cB ?_ | refine cI ?_) | refine cE rfl ?_ | refine rq (qt_pev tok rfl) ?_ | refine rg rfl rfl (qt_pev tok rfl) ?_ | refine rq (ql tok rfl) ?_ | refine rg rfl rfl (ql tok rfl) ?_ | (refine runL_op0 (sst tok rfl rfl rfl rfl rfl) ?_; rintro _ _ _ ⟨rfl, rfl, rfl⟩) | ((first | refine ro (st_box rfl) ?_ | refine ro (st_alloc tok rfl) ?_ | refine ro (st_buildSlice tok rfl rfl rfl rfl rfl rfl rfl) ?_); rintro _ _ _ ⟨_, rfl, rfl, rfl⟩))
    exact run_ret hC (rs := [.tmp 4]) rfl (resT rfl resN) (fun _ h => h) ⟨by rw [kT, if_neg h1]; rfl, rfl, by rw [kT, if_neg h1]; rfl⟩
  · have h1 := (hcond false h).1 rfl
    obtain ⟨m, hm1, hm2, hm3⟩ := textR_len c.1 most h1.2
    refine run_skip ?_
    repeat (first | with_reducible (first | refine cS ?_ | refine cR ?_ | refine cN ?_ | refine cK ?_ | refine cB ?_ | refine cI ?_) | refine cE rfl ?_ | refine rq (qt_pev tok rfl) ?_ | refine rg rfl rfl (qt_pev tok rfl) ?_ | refine rq (ql tok rfl) ?_ | refine rg rfl rfl (ql tok rfl) ?_ | (refine runL_op0 (sst tok rfl rfl rfl rfl rfl) ?_; rintro _ _ _ ⟨rfl, rfl, rfl⟩) | ((first | refine ro (st_box rfl) ?_ | refine ro (st_alloc tok rfl) ?_ | refine ro (st_buildSlice tok rfl rfl rfl rfl rfl rfl rfl) ?_); rintro _ _ _ ⟨_, rfl, rfl, rfl⟩))
    refine runL_as 35 (.int .i64 (m : Int)) rfl (by rw [refText_eq, hm1]) ?_
    repeat (first | with_reducible (first | refine cS ?_ | refine cR ?_ | refine cN ?_ | refine cK ?_ | refine cB ?_ | refine cI ?_) | refine cE rfl ?_ | refine rq (qt_pev tok rfl) ?_ | refine rg rfl rfl (qt_pev tok rfl) ?_ | refine rq (ql tok rfl) ?_ | refine rg rfl rfl (ql tok rfl) ?_ | (refine runL_op0 (sst tok rfl rfl rfl rfl rfl) ?_; rintro _ _ _ ⟨rfl, rfl, rfl⟩) | ((first | refine ro (st_box rfl) ?_ | refine ro (st_alloc tok rfl) ?_ | refine ro (st_buildSlice tok rfl rfl rfl rfl rfl rfl rfl) ?_); rintro _ _ _ ⟨_, rfl, rfl, rfl⟩) | refine runL_q (qt_strLo (n := m) tok rfl rfl rfl (fun _ => hm3)) rfl rfl rfl ?_)
    refine run_ret hC (rs := [.tmp 4]) rfl (resT rfl resN) (fun _ h => h) ⟨?_, rfl, ?_⟩
    · rw [kT, if_pos h1, refText_eq]; rfl
    · rw [kT, if_pos h1, hm1, h1.1.symm]; rfl
end Go.Proofs.Ytbpgiodfccijmaa
namespace Go.Proofs.Ytbpgiodfccijmaa
open Go.Chi

/-! ### the document's Same -/
set_option maxRecDepth 10000 in
set_option maxHeartbeats 8000000 in
theorem refSameInts_ok (M : Mem) (L : HL) (p q : SIn) (hp : InOk M p) (hq : InOk M q) : TrQ Try.prog 54 [p.v, q.v] M L (.bool (decide (p.xs = q.xs))) := by
  have l1 := hp.len
  have l2 := hq.len
  have n1 := hp.2
  have n2 := hq.2
  obtain ⟨pa, pl, pc, px⟩ := p
  obtain ⟨qa, ql, qc, qx⟩ := q
  simp only [SIn.v] at *
  refine Tr.intro 26 Try.func54 rfl rfl Try.call54 rfl ?_
  intro C hC hro
  repeat (first | with_reducible (first | refine cS ?_ | refine cR ?_ | refine cN ?_ | refine cK ?_ | refine cB ?_ | refine cI ?_) | refine cE rfl ?_ | refine rq (qt_pev tok rfl) ?_ | refine rg rfl rfl (qt_pev tok rfl) ?_ | refine rq (ql tok rfl) ?_ | refine rg rfl rfl (ql tok rfl) ?_ | (refine runL_op0 (sst tok rfl rfl rfl rfl rfl) ?_; rintro _ _ _ ⟨rfl, rfl, rfl⟩) | ((first | refine ro (st_box rfl) ?_ | refine ro (st_alloc tok rfl) ?_ | refine ro (st_buildSlice tok rfl rfl rfl rfl rfl rfl rfl) ?_); rintro _ _ _ ⟨_, rfl, rfl, rfl⟩))
  refine run_cond rfl (fun h => ?_) (fun h => ?_)
  · have hne : px ≠ qx := by rintro rfl; simp at h; omega
    rw [decide_eq_false hne] at hC
    repeat (first | with_reducible (first | refine cS ?_ | refine cR ?_ | refine cN ?_ | refine cK ?_ | refine cB ?_ | refine cI ?_) | refine cE rfl ?_ | refine rq (qt_pev tok rfl) ?_ | refine rg rfl rfl (qt_pev tok rfl) ?_ | refine rq (ql tok rfl) ?_ | refine rg rfl rfl (ql tok rfl) ?_ | (refine runL_op0 (sst tok rfl rfl rfl rfl rfl) ?_; rintro _ _ _ ⟨rfl, rfl, rfl⟩) | ((first | refine ro (st_box rfl) ?_ | refine ro (st_alloc tok rfl) ?_ | refine ro (st_buildSlice tok rfl rfl rfl rfl rfl rfl rfl) ?_); rintro _ _ _ ⟨_, rfl, rfl, rfl⟩))
    exact run_ret hC (rs := [.tmp 4]) rfl (resT rfl resN) (fun _ h => h) ⟨rfl, rfl, rfl⟩
  have he : pl = ql := by simp at h; omega
  subst he
  repeat (first | with_reducible (first | refine cS ?_ | refine cR ?_ | refine cN ?_ | refine cK ?_ | refine cB ?_ | refine cI ?_) | refine cE rfl ?_ | refine rq (qt_pev tok rfl) ?_ | refine rg rfl rfl (qt_pev tok rfl) ?_ | refine rq (ql tok rfl) ?_ | refine rg rfl rfl (ql tok rfl) ?_ | (refine runL_op0 (sst tok rfl rfl rfl rfl rfl) ?_; rintro _ _ _ ⟨rfl, rfl, rfl⟩) | ((first | refine ro (st_box rfl) ?_ | refine ro (st_alloc tok rfl) ?_ | refine ro (st_buildSlice tok rfl rfl rfl rfl rfl rfl rfl) ?_); rintro _ _ _ ⟨_, rfl, rfl, rfl⟩))
  refine run_loopN (fun j σ1 M1 L1 => j ≤ pl ∧ M = M1 ∧ L = L1 ∧ px.take j = qx.take j ∧ σ1 = [(5, .int .i64 (j : Int)), (0, .slice pa pl pc), (1, .slice qa pl qc)]) pl [(5, .int .i64 ((0 : Nat) : Int)), (0, .slice pa pl pc), (1, .slice qa pl qc)] ?_ ⟨Nat.zero_le _, rfl, rfl, by simp, rfl⟩ (fun j _ _ _ h => h.1) ?_
  · exact ⟨rfl, rfl, rfl, trivial⟩
  rintro j _ _ _ ⟨hj, rfl, rfl, heq, rfl⟩ hnext
  repeat (first | with_reducible (first | refine cS ?_ | refine cR ?_ | refine cN ?_ | refine cK ?_ | refine cB ?_ | refine cI ?_) | refine cE rfl ?_ | refine rq (qt_pev tok rfl) ?_ | refine rg rfl rfl (qt_pev tok rfl) ?_ | refine rq (ql tok rfl) ?_ | refine rg rfl rfl (ql tok rfl) ?_ | (refine runL_op0 (sst tok rfl rfl rfl rfl rfl) ?_; rintro _ _ _ ⟨rfl, rfl, rfl⟩) | ((first | refine ro (st_box rfl) ?_ | refine ro (st_alloc tok rfl) ?_ | refine ro (st_buildSlice tok rfl rfl rfl rfl rfl rfl rfl) ?_); rintro _ _ _ ⟨_, rfl, rfl, rfl⟩))
  refine run_cond rfl (fun h => ?_) (fun h => ?_)
  · have hlt : j < pl := by simpa using h
    obtain ⟨b, off, m, rfl, hm, hc⟩ := SIn.at_ hp.1 hlt
    obtain ⟨b', off', m', rfl, hm', hc'⟩ := SIn.at_ hq.1 hlt
    repeat (first | with_reducible (first | refine cS ?_ | refine cR ?_ | refine cN ?_ | refine cK ?_ | refine cB ?_ | refine cI ?_) | refine cE rfl ?_ | refine rq (qt_pev tok rfl) ?_ | refine rg rfl rfl (qt_pev tok rfl) ?_ | refine rq (ql tok rfl) ?_ | refine rg rfl rfl (ql tok rfl) ?_ | (refine runL_op0 (sst tok rfl rfl rfl rfl rfl) ?_; rintro _ _ _ ⟨rfl, rfl, rfl⟩) | ((first | refine ro (st_box rfl) ?_ | refine ro (st_alloc tok rfl) ?_ | refine ro (st_buildSlice tok rfl rfl rfl rfl rfl rfl rfl) ?_); rintro _ _ _ ⟨_, rfl, rfl, rfl⟩) | refine prn_start mixed ?_ | refine prn_end (by decide +kernel) ?_ | refine pq rfl (qt_pev tok rfl) ?_ | refine pg rfl rfl rfl (qt_pev tok rfl) ?_ | refine pq rfl (ql tok rfl) ?_ | refine pg rfl rfl rfl (ql tok rfl) ?_ | (refine prn_e0 rfl (sst tok rfl rfl rfl rfl rfl) (by decide +kernel) ?_; rintro _ _ _ ⟨rfl, rfl, rfl⟩) | ((first | refine pe rfl (st_box rfl) ?_ | refine pe rfl (st_alloc tok rfl) ?_ | refine pe rfl (st_buildSlice tok rfl rfl rfl rfl rfl rfl rfl) ?_); rintro _ _ _ ⟨_, rfl, rfl, rfl⟩) | (refine prn_o0 rfl (sst tok rfl rfl rfl rfl rfl) (by decide +kernel) ?_; rintro _ _ _ ⟨rfl, rfl, rfl⟩; refine ⟨by (repeat (first | exact trivial | refine And.intro (pend_q rfl rfl rfl (qt_pev tok rfl)) ?_ | refine And.intro (pend_q rfl rfl rfl (ql tok rfl)) ?_)), ?_⟩) | ((first | refine po rfl (st_box rfl) ?_ | refine po rfl (st_alloc tok rfl) ?_ | refine po rfl (st_buildSlice tok rfl rfl rfl rfl rfl rfl rfl) ?_); rintro _ _ _ ⟨_, rfl, rfl, rfl⟩; refine ⟨by (repeat (first | exact trivial | refine And.intro (pend_q rfl rfl rfl (qt_pev tok rfl)) ?_ | refine And.intro (pend_q rfl rfl rfl (ql tok rfl)) ?_)), ?_⟩) | (refine pe rfl (qt_pev tok rfl) ?_; rintro _ _ _ ⟨rfl, rfl, rfl⟩) | refine prn_q rfl (qt_indexN tok rfl rfl rfl rfl (fun _ => by omega)) (by decide +kernel) rfl rfl rfl ?_ | refine prn_g rfl rfl rfl (qt_indexN tok rfl rfl rfl rfl (fun _ => by omega)) (by decide +kernel) rfl rfl rfl rfl rfl ?_ | refine prn_q rfl (qt_ldM tok rfl hc rfl) (by decide +kernel) rfl rfl rfl ?_ | refine prn_g rfl rfl rfl (qt_ldM tok rfl hc rfl) (by decide +kernel) rfl rfl rfl rfl rfl ?_ | refine prn_q rfl (qt_ldM0 tok rfl hc rfl) (by decide +kernel) rfl rfl rfl ?_ | refine prn_g rfl rfl rfl (qt_ldM0 tok rfl hc rfl) (by decide +kernel) rfl rfl rfl rfl rfl ?_ | refine prn_q rfl (qt_ldM tok rfl hc' rfl) (by decide +kernel) rfl rfl rfl ?_ | refine prn_g rfl rfl rfl (qt_ldM tok rfl hc' rfl) (by decide +kernel) rfl rfl rfl rfl rfl ?_ | refine prn_q rfl (qt_ldM0 tok rfl hc' rfl) (by decide +kernel) rfl rfl rfl ?_ | refine prn_g rfl rfl rfl (qt_ldM0 tok rfl hc' rfl) (by decide +kernel) rfl rfl rfl rfl rfl ?_)
    refine run_cond rfl (fun h => ?_) (fun h => ?_)
    · have hne : px ≠ qx := by rintro rfl; rw [hm] at hm'; cases hm'; simp at h
      rw [decide_eq_false hne] at hC
      repeat (first | with_reducible (first | refine cS ?_ | refine cR ?_ | refine cN ?_ | refine cK ?_ | refine cB ?_ | refine cI ?_) | refine cE rfl ?_ | refine rq (qt_pev tok rfl) ?_ | refine rg rfl rfl (qt_pev tok rfl) ?_ | refine rq (ql tok rfl) ?_ | refine rg rfl rfl (ql tok rfl) ?_ | (refine runL_op0 (sst tok rfl rfl rfl rfl rfl) ?_; rintro _ _ _ ⟨rfl, rfl, rfl⟩) | ((first | refine ro (st_box rfl) ?_ | refine ro (st_alloc tok rfl) ?_ | refine ro (st_buildSlice tok rfl rfl rfl rfl rfl rfl rfl) ?_); rintro _ _ _ ⟨_, rfl, rfl, rfl⟩))
      exact run_ret hC (rs := [.tmp 4]) rfl (resT rfl resN) (fun _ h => h) ⟨rfl, rfl, rfl⟩
    · have hmm : m = m' := by simpa using h
      subst hmm
      repeat (first | with_reducible (first | refine cS ?_ | refine cR ?_ | refine cN ?_ | refine cK ?_ | refine cB ?_ | refine cI ?_) | refine cE rfl ?_ | refine rq (qt_pev tok rfl) ?_ | refine rg rfl rfl (qt_pev tok rfl) ?_ | refine rq (ql tok rfl) ?_ | refine rg rfl rfl (ql tok rfl) ?_ | (refine runL_op0 (sst tok rfl rfl rfl rfl rfl) ?_; rintro _ _ _ ⟨rfl, rfl, rfl⟩) | ((first | refine ro (st_box rfl) ?_ | refine ro (st_alloc tok rfl) ?_ | refine ro (st_buildSlice tok rfl rfl rfl rfl rfl rfl rfl) ?_); rintro _ _ _ ⟨_, rfl, rfl, rfl⟩))
      refine run_sub' (hnext _ _ _ ⟨hlt, rfl, rfl, ?_, rfl⟩) ⟨lk_succ rfl (by omega), rfl, rfl, trivial⟩
      rw [take_snoc hm, take_snoc hm', heq]
  · have hge : j = pl := by simp at h; omega
    subst hge
    rw [List.take_of_length_le (by omega), List.take_of_length_le (by omega)] at heq
    rw [decide_eq_true heq] at hC
    repeat (first | with_reducible (first | refine cS ?_ | refine cR ?_ | refine cN ?_ | refine cK ?_ | refine cB ?_ | refine cI ?_) | refine cE rfl ?_ | refine rq (qt_pev tok rfl) ?_ | refine rg rfl rfl (qt_pev tok rfl) ?_ | refine rq (ql tok rfl) ?_ | refine rg rfl rfl (ql tok rfl) ?_ | (refine runL_op0 (sst tok rfl rfl rfl rfl rfl) ?_; rintro _ _ _ ⟨rfl, rfl, rfl⟩) | ((first | refine ro (st_box rfl) ?_ | refine ro (st_alloc tok rfl) ?_ | refine ro (st_buildSlice tok rfl rfl rfl rfl rfl rfl rfl) ?_); rintro _ _ _ ⟨_, rfl, rfl, rfl⟩))
    exact run_ret hC (rs := [.tmp 4]) rfl (resT rfl resN) (fun _ h => h) ⟨rfl, rfl, rfl⟩
def sameSp (x y : Sp) : Bool := ((((((x.do_ == y.do_) && (x.a == y.a)) && (x.b == y.b)) && (x.c == y.c)) && (x.n == y.n)) && (x.text.toList == y.text.toList)) && decide (x.list = y.list)
set_option maxRecDepth 10000 in
set_option maxHeartbeats 16000000 in
theorem refSameStep_ok (M : Mem) (L : HL) (x y : Sr) (hx : SrOk M x) (hy : SrOk M y) : TrQ Try.prog 38 [.agg ⟨srC x⟩, .agg ⟨srC y⟩] M L (.bool (sameSp x.sp y.sp)) := by
  refine Tr.intro 52 Try.func38 rfl rfl Try.call38 rfl ?_
  intro C hC hro
  repeat (first | with_reducible (first | refine cS ?_ | refine cR ?_ | refine cN ?_ | refine cK ?_ | refine cB ?_ | refine cI ?_) | refine cE rfl ?_ | refine rq (qt_pev tok rfl) ?_ | refine rg rfl rfl (qt_pev tok rfl) ?_ | refine rq (ql tok rfl) ?_ | refine rg rfl rfl (ql tok rfl) ?_ | (refine runL_op0 (sst tok rfl rfl rfl rfl rfl) ?_; rintro _ _ _ ⟨rfl, rfl, rfl⟩) | ((first | refine ro (st_box rfl) ?_ | refine ro (st_alloc tok rfl) ?_ | refine ro (st_buildSlice tok rfl rfl rfl rfl rfl rfl rfl) ?_); rintro _ _ _ ⟨_, rfl, rfl, rfl⟩) | refine runL_g rfl rfl (qt_callF rfl (fun _ => refSameInts_ok _ _ x.list y.list hx.list hy.list)) rfl rfl rfl rfl rfl ?_)
  exact run_ret hC (rs := [.tmp 4]) rfl (resT rfl resN) (fun _ h => h.drop.drop) ⟨rfl, rfl, rfl⟩
end Go.Proofs.Ytbpgiodfccijmaa
