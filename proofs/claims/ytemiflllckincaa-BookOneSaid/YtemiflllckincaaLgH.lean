import Derived.Test.YtemiflllckincaaLgG
import Derived.RangeFuncLeaves
import Derived.RangeFuncRecord
namespace Go.Chi

/-! ### a range over a function -/
def yv (l : Nat) : Value := .func (.yield l) #[] #[]

/-- a call of yield -/
def YieldTo (P : Program) (l : Nat) (args : List Value) (M : Mem) (L : HL) (K : Value → Mem → HL → Prop) : Prop :=
  ∀ w, Hp M L w → OpRes P (fun v w' => ∃ M' L', Hp M' L' w' ∧ K v M' L') ((Instr.yield l ⟨args⟩).run P w)

section
variable {P : Program} {T : TT} {ro : Option Nat} {σ : Env} {δ : Den} {cur : Path} {M : Mem} {L : HL} {d : Option Nat} {op : Op} {ty : TypeId} {pos : String} {aft : Array Edge} {g : Option (Nat × Bool)} {v : Value}

theorem st_yield {x : Operand} {l : Nat} {args : Array Operand} {tys : Array TypeId} {vs : List Value} {K : Value → Mem → HL → Prop} (hx : ev σ δ cur x = some (yv l)) (ha : evs σ δ cur args.toList = some vs) (h : Hy σ δ cur → YieldTo P l vs M L K) :
    St P ro ⟨d, .call ⟨.value x, args, tys⟩, ty, pos, aft, g⟩ σ δ cur M L K := fun a w hs hcur hp => by
  have h1 := h (Hy_of hs hcur) w hp
  unfold OpWp
  rw [semAt_of (by intro c e; cases e)]
  have e1 : args.map a.eval = ⟨vs⟩ := by apply Array.ext'; simpa using evs_sound hs hcur ha
  simp only [execOp, resolve, e1, ev_sound hs hcur hx, yv, Deferred.ofValue, Sem.run_bind, Sem.run_pure, Result.andThen_ok, invoke]
  simpa using h1
end

/-- function g, called with yield, hands it xs, one behind the other, as long as it says yes -/
def IterOk (P : Program) (g : FuncId) (caps : List Value) (M : Mem) (xs : List (List Value)) : Prop :=
  ∀ (l : Nat) (I X : Nat → Mem → HL → Prop) (M0 : Mem) (L0 : HL), M.le M0 →
    (∀ k x M1 L1 F, xs[k]? = some x → M0.le M1 → I k M1 L1 → YieldTo P l x M1 (F ++ L1) (fun v M2 Lt => ∃ L2, Lt = F ++ L2 ∧ M1.le M2 ∧ ((v = .bool true ∧ I (k + 1) M2 L2) ∨ (v = .bool false ∧ X k M2 L2)))) →
    I 0 M0 L0 →
    Tr P g (yv l :: caps) M0 L0 (fun _ M2 Lt => M0.le M2 ∧ (I xs.length M2 Lt ∨ ∃ k, X k M2 Lt))

theorem Hp.putObj {M : Mem} {L L' : HL} {w : World} {b : Nat} {o o' : Obj} (h : Hp M L w) (hu : Upd L b o o' L') : Hp M L' (w.putObj b o') := by
  have hb := h.own _ hu.mem
  have hlt := (Array.getElem?_eq_some_iff.1 hb).1
  exact h.upd hu rfl rfl rfl (World.putObj_heap_same hlt) fun k hk => World.putObj_heap_other hk

/-- how a round's frame ends -/
structure RdCx (P : Program) (l : Nat) (K : Value → Mem → HL → Prop) (C : Cx) : Prop where
  ro : C.b.roundOf = some l
  kind : C.b.kind = .normal
  phi : ∃ c cs, C.cs = c :: cs ∧ C.Φ = fun fr w => ∃ v w' M' L', Hp M' L' w' ∧ K v M' L' ∧ step P (lone fr (c :: cs) w) = .next (lone (c.finish v) cs w')

section
variable {P : Program} {C : Cx} {n : Nat} {k : List Item} {σ : Env} {M : Mem} {L L' : HL} {l : Nat} {r : Loop} {K : Value → Mem → HL → Prop}

theorem rd_begin (hC : RdCx P l K C) (hu : Upd L l (.loop r) (.loop { r with state := .busy }) L') (hr : r.state = .ready) (h : Run P C n k [] σ M L') : Run P C n (.beginRound :: k) [] σ M L :=
  fun a w h1 h2 h3 h4 => J.step (stepR_beginRound hC.ro (run_beginRound (h4.own _ hu.mem) hr)) (h a _ h1 h2 h3 (h4.putObj hu))

theorem rd_end (hC : RdCx P l K C) (hu : Upd L l (.loop r) (.loop { r with state := .ready, pending := none }) L') (hk : K (.bool true) M L') : Run P C n [] [] σ M L := fun a w h1 h2 h3 h4 => by
  obtain ⟨c, cs, e1, e2⟩ := hC.phi
  rw [e1, e2]
  refine J.done ⟨.bool true, _, M, L', h4.putObj hu, hk, stepR_round_end hC.ro hC.kind ?_⟩
  exact run_endRound (P := P) none (h4.own _ hu.mem)

theorem rd_ret (hC : RdCx P l K C) (hu : Upd L l (.loop r) (.loop { r with state := .done, pending := some .ret }) L') (hk : K (.bool false) M L') : Run P C n (.code .ret :: k) [] σ M L := fun a w h1 h2 h3 h4 => by
  obtain ⟨c, cs, e1, e2⟩ := hC.phi
  rw [e1, e2]
  refine J.done ⟨.bool false, _, M, L', h4.putObj hu, hk, stepR_round_ret hC.ro hC.kind ?_⟩
  exact run_endRound (P := P) (some .ret) (h4.own _ hu.mem)

theorem rd_exit {id : Nat} (hC : RdCx P l K C) (hx : exitTo id k = none) (hu : Upd L l (.loop r) (.loop { r with state := .done, pending := some (.exit id) }) L') (hk : K (.bool false) M L') : Run P C n (.code (.exit id) :: k) [] σ M L := fun a w h1 h2 h3 h4 => by
  obtain ⟨c, cs, e1, e2⟩ := hC.phi
  rw [e1, e2]
  refine J.done ⟨.bool false, _, M, L', h4.putObj hu, hk, stepR_round_exit hC.ro hC.kind hx ?_⟩
  exact run_endRound (P := P) (some (.exit id)) (h4.own _ hu.mem)
end

/-- the slots of a round -/
def setPs : List Nat → List Value → Env → Env
  | p :: ps, v :: vs, σ => setPs ps vs ((p, v) :: σ)
  | _, _, σ => σ

theorem sees_setPs {n : Nat} : ∀ (ps : List Nat) (vs : List Value) (σ : Env) (tm : Array Value) (ds : List Deferred), (∀ p ∈ ps, p < n) → tm.size = n → ps.length = vs.length → Sees σ [] ⟨tm, ds⟩ →
    Sees (setPs ps vs σ) [] ⟨(ps.zip vs).foldl (fun t x => t.setIfInBounds x.1 x.2) tm, ds⟩ ∧ ((ps.zip vs).foldl (fun (t : Array Value) x => t.setIfInBounds x.1 x.2) tm).size = n
  | [], [], σ, tm, ds, _, hn, _, h => ⟨h, hn⟩
  | p :: ps, v :: vs, σ, tm, ds, hp, hn, hl, h => by
    simp only [List.zip_cons_cons, List.foldl_cons, setPs]
    refine sees_setPs ps vs ((p, v) :: σ) _ ds (fun q hq => hp q (List.mem_cons_of_mem _ hq)) (by simpa using hn) (by simpa using hl) ?_
    exact h.put (d := p) (by show p < tm.size; rw [hn]; exact hp p (by simp)) rfl rfl v
  | [], _ :: _, _, _, _, _, _, hl, _ => by simp at hl
  | _ :: _, [], _, _, _, _, _, hl, _ => by simp at hl

/-- what the body of a range may lean on, in its round -/
structure RdB (P : Program) (C : Cx) (n : Nat) (M1 : Mem) (R R' : HL) (J : Mem → HL → Prop) (X : Code → Mem → HL → Prop) : Prop where
  begin_ : ∀ k σ M L2, Run P C n k [] σ M (L2 ++ R') → Run P C n (.beginRound :: k) [] σ M (L2 ++ R)
  fin : ∀ σ M2 L2, M1.le M2 → J M2 L2 → Run P C n [] [] σ M2 (L2 ++ R')
  ret : ∀ k σ M2 L2, M1.le M2 → X .ret M2 L2 → Run P C n (.code .ret :: k) [] σ M2 (L2 ++ R')
  exit : ∀ id k σ M2 L2, exitTo id k = none → M1.le M2 → X (.exit id) M2 L2 → Run P C n (.code (.exit id) :: k) [] σ M2 (L2 ++ R')

theorem Upd.append_left {L L' : HL} {b : Nat} {o o' : Obj} (A : HL) (h : Upd L b o o' L') : Upd (A ++ L) b o o' (A ++ L') := by
  obtain ⟨X, Y, rfl, rfl⟩ := h
  exact ⟨A ++ X, Y, by simp, by simp⟩

theorem run_perm {P : Program} {C : Cx} {n : Nat} {k : List Item} {ds : List Deferred} {σ : Env} {M : Mem} {L L' : HL} (hp : L.Perm L') (h : Run P C n k ds σ M L') : Run P C n k ds σ M L :=
  run_mem (fun _ hw => hw.perm hp) h

/-- the statement -/
theorem run_range {P : Program} {C : Cx} {n : Nat} {k : List Item} {ds : List Deferred} {σ : Env} {M : Mem} {L : HL} {f : Operand} {ps : Array Tmp} {assign body : Code} {g : FuncId} {caps : Array Value} {xs : List (List Value)}
    (hro : C.b.roundOf = none) (hf : ev σ [] [] f = some (.func (.func g) #[] caps)) (hit : IterOk P g caps.toList M xs)
    (hps : ps.toList.all (fun p => Nat.blt p n) = true) (hxs : ∀ x ∈ xs, x.length = ps.size)
    (I : Nat → Mem → HL → Prop) (X : Code → Nat → Mem → HL → Prop) (h0 : I 0 M L)
    (hbody : ∀ j x M1 L1 R R' C', xs[j]? = some x → M.le M1 → I j M1 L1 → RdB P C' n M1 R R' (I (j + 1)) (fun c => X c j) → Run P C' n [.code assign, .beginRound, .code body] [] (setPs ps.toList x σ) M1 (L1 ++ R))
    (hdone : ∀ D M2 L2, M.le M2 → I xs.length M2 L2 → Run P C n k (⟨.collected D, #[]⟩ :: ds) σ M2 ((D, .deferred (some [])) :: L2))
    (hjump : ∀ c j D M2 L2, M.le M2 → X c j M2 L2 → Run P C n (.code c :: k) (⟨.collected D, #[]⟩ :: ds) σ M2 ((D, .deferred (some [])) :: L2)) :
    Run P C n (.code (.rangeFunc f ps assign body) :: k) ds σ M L := fun a w h1 h2 h3 h4 => by
  obtain ⟨rec, hrec⟩ : ∃ rec : LoopState → Option Code → Loop, rec = fun st pe => { state := st, pending := pe, fn := C.b.fn, tmps := a.tmps, params := ps, assign, body, defers := w.heap.size } := ⟨_, rfl⟩
  have hent := run_enterLoop_outer (P := P) (w := w) C.b.fn a.tmps ps assign body
  have hp1 : Hp M ((w.heap.size + 1, .loop (rec .ready none)) :: (w.heap.size, .deferred (some [])) :: L) ((w.alloc (.deferred (some []))).alloc (.loop (rec .ready none))) := by
    have a1 := h4.push (.deferred (some []))
    have a2 := a1.push (.loop (rec .ready none))
    simp only [Array.size_push] at a2
    exact a2
  have hlp : w.heap.size + 1 ≠ w.heap.size := by omega
  -- what the caller's memory is, between two rounds
  let I' : Nat → Mem → HL → Prop := fun j M' L' => M.le M' ∧ ∃ L1, L' = (w.heap.size + 1, .loop (rec .ready none)) :: (w.heap.size, .deferred (some [])) :: L1 ∧ I j M' L1
  let X' : Nat → Mem → HL → Prop := fun j M' L' => M.le M' ∧ ∃ c L1, L' = (w.heap.size + 1, .loop (rec .done (some c))) :: (w.heap.size, .deferred (some [])) :: L1 ∧ X c j M' L1
  have htr := hit (w.heap.size + 1) I' X' M ((w.heap.size + 1, .loop (rec .ready none)) :: (w.heap.size, .deferred (some [])) :: L) (Mem.le_refl M) ?body ⟨Mem.le_refl M, L, rfl, h0⟩
  case body =>
    rintro j x M1 L1' F hx hM1 ⟨_, L1, rfl, hI⟩ w1 hw1
    have hl : w1.heap[w.heap.size + 1]? = some (.loop (rec .ready none)) := hw1.own (w.heap.size + 1, .loop (rec .ready none)) (by simp)
    have hlen : x.length = ps.size := hxs x (List.mem_of_getElem? hx)
    rw [run_yield (P := P) (args := ⟨x⟩) hl (by rw [hrec]; simpa using hlen)]
    show Rd P _ _ _ _ _ w1 _
    intro c cs
    let b : Frame := { (default : Frame) with fn := (rec .ready none).fn, kind := .normal, roundOf := some (w.heap.size + 1) }
    obtain ⟨hsee, hsz⟩ := sees_setPs (n := n) ps.toList x σ a.tmps [] (fun p hp => Nat.blt_eq.mp (List.all_eq_true.1 hps p hp)) h1 (by simpa using hlen.symm) ⟨h3.s, h3.d⟩
    have htm : (((rec .ready none).params.zip ⟨x⟩).foldl (fun (tmps : Array Value) (y : Nat × Value) => tmps.setIfInBounds y.1 y.2) (rec .ready none).tmps) = (ps.toList.zip x).foldl (fun t y => t.setIfInBounds y.1 y.2) a.tmps := by
      rw [hrec]
      rw [← Array.foldl_toList, Array.toList_zip]
    have hfr : Frame.round (w.heap.size + 1) (rec .ready none).fn (((rec .ready none).params.zip ⟨x⟩).foldl (fun (tmps : Array Value) (y : Nat × Value) => tmps.setIfInBounds y.1 y.2) (rec .ready none).tmps) (rec .ready none).assign (rec .ready none).body .normal =
        b.atR ⟨(ps.toList.zip x).foldl (fun t y => t.setIfInBounds y.1 y.2) a.tmps, []⟩ [.code assign, .beginRound, .code body] := by
      rw [htm]; simp [Frame.round, Frame.atR, b, hrec]
    let K : Value → Mem → HL → Prop := fun v M2 Lt => ∃ L2, Lt = F ++ L2 ∧ M1.le M2 ∧ ((v = .bool true ∧ I' (j + 1) M2 L2) ∨ (v = .bool false ∧ X' j M2 L2))
    let Φ : Frame → World → Prop := fun fr w2 => ∃ v w', ∃ M' L', Hp M' L' w' ∧ K v M' L' ∧ step P (lone fr (c :: cs) w2) = .next (lone (c.finish v) cs w')
    have hC : RdCx P (w.heap.size + 1) K ⟨b, c :: cs, Φ⟩ := ⟨rfl, rfl, c, cs, rfl, rfl⟩
    have hMM : M.le M1 := hM1
    -- the round's frame, with the loop's record behind
    have perm1 : ∀ (o : Obj) (L2 : HL), (L2 ++ ((w.heap.size + 1, o) :: (w.heap.size, .deferred (some [])) :: F)).Perm (F ++ ((w.heap.size + 1, o) :: (w.heap.size, .deferred (some [])) :: L2)) := fun o L2 => by
      refine List.perm_append_comm.trans ?_
      refine List.Perm.trans ?_ List.perm_append_comm
      simp only [List.cons_append]
      refine List.Perm.cons _ (List.Perm.cons _ ?_)
      exact List.perm_append_comm
    have upd : ∀ (o o' : Obj) (L2 : HL), Upd (F ++ ((w.heap.size + 1, o) :: (w.heap.size, .deferred (some [])) :: L2)) (w.heap.size + 1) o o' (F ++ ((w.heap.size + 1, o') :: (w.heap.size, .deferred (some [])) :: L2)) :=
      fun o o' L2 => (Upd.here _ _ _ _).append_left F
    have hb := hbody j x M1 L1 ((w.heap.size + 1, .loop (rec .ready none)) :: (w.heap.size, .deferred (some [])) :: F) ((w.heap.size + 1, .loop (rec .busy none)) :: (w.heap.size, .deferred (some [])) :: F) ⟨b, c :: cs, Φ⟩ hx hMM hI {
      begin_ := fun k σ M L2 h => by
        refine run_perm (perm1 _ L2) ?_
        refine rd_begin hC (r := rec .ready none) (upd _ _ L2) (by rw [hrec]) ?_
        refine run_perm (perm1 _ L2).symm ?_
        rw [hrec] at h ⊢
        exact h
      fin := fun σ M2 L2 hM2 hJ => by
        refine run_perm (perm1 _ L2) ?_
        refine rd_end hC (r := rec .busy none) (upd _ _ L2) ?_
        refine ⟨_, rfl, hM2, .inl ⟨rfl, Mem.le_trans hMM hM2, L2, ?_, hJ⟩⟩
        rw [hrec]
      ret := fun k σ M2 L2 hM2 hX => by
        refine run_perm (perm1 _ L2) ?_
        refine rd_ret hC (r := rec .busy none) (upd _ _ L2) ?_
        refine ⟨_, rfl, hM2, .inr ⟨rfl, Mem.le_trans hMM hM2, .ret, L2, ?_, hX⟩⟩
        rw [hrec]
      exit := fun id k σ M2 L2 hx hM2 hX => by
        refine run_perm (perm1 _ L2) ?_
        refine rd_exit hC (r := rec .busy none) hx (upd _ _ L2) ?_
        refine ⟨_, rfl, hM2, .inr ⟨rfl, Mem.le_trans hMM hM2, .exit id, L2, ?_, hX⟩⟩
        rw [hrec] }
    obtain ⟨fr', w2, hs, v, w3, M', L', hp3, hK, hstep⟩ := hb _ w1 hsz rfl hsee (hw1.perm (perm1 _ L1).symm)
    rw [hfr]
    exact ⟨v, w3, ⟨M', L', hp3, hK⟩, hs.trans (.one hstep)⟩
  -- the call
  have hres : (resolve a.eval (rangeCall f (w.heap.size + 1)) 0).run P ((w.alloc (.deferred (some []))).alloc (.loop (rec .ready none))) = .ok { target := .fn (.func g) caps, args := #[yv (w.heap.size + 1)] } ((w.alloc (.deferred (some []))).alloc (.loop (rec .ready none))) := by
    have h5 := ev_sound h3 (holds_nil a) hf
    have h6 : (#[Operand.const (.func (.yield (w.heap.size + 1)) #[] #[])] : Array Operand).map a.eval = #[yv (w.heap.size + 1)] := by simp [Act.eval, yv]
    simp only [resolve, rangeCall, h5, h6, Deferred.ofValue, Sem.run_pure]
    simp
  have hinv : (invoke (.fn (.func g) caps) #[yv (w.heap.size + 1)]).run P ((w.alloc (.deferred (some []))).alloc (.loop (rec .ready none))) = .ok (.enter g ⟨yv (w.heap.size + 1) :: caps.toList⟩) ((w.alloc (.deferred (some []))).alloc (.loop (rec .ready none))) := by
    have e : (#[yv (w.heap.size + 1)] ++ caps : Array Value) = ⟨yv (w.heap.size + 1) :: caps.toList⟩ := by apply Array.ext'; simp
    simp only [invoke, e]
    exact htr.1 _
  have henter := stepR_rangeFunc (P := P) (b := C.b) (a := a) (k := k) (cs := C.cs) (w := w) (g := f) (ps := ps) (assign := assign) (body := body) (by rw [hro]; exact hent) (by rw [hrec] at hres; exact hres) (by rw [hrec] at hinv; exact hinv)
  obtain ⟨v, w2, fr, ⟨M2, Lt, hp2, hM2, hend⟩, hsteps, _, hleave⟩ := htr.2 _ hp1 (C.b.atR { a with defers := [{ target := .collected w.heap.size, args := #[] }] ++ a.defers } (.inRangeFunc (w.heap.size + 1) :: k) :: C.cs)
  have hback : Steps P (lone (C.b.atR a (.code (.rangeFunc f ps assign body) :: k)) C.cs w) (lone (C.b.atR { a with defers := [{ target := .collected w.heap.size, args := #[] }] ++ a.defers } (.endRangeFunc (w.heap.size + 1) :: k)) C.cs w2) := by
    refine .head henter ?_
    rw [hrec] at hsteps
    refine hsteps.trans (.one ?_)
    rw [← finish_atR_inRangeFunc (w.heap.size + 1) v]
    exact step_leave_returned hleave
  refine J.steps hback ?_
  have hds : ({ a with defers := [{ target := .collected w.heap.size, args := #[] }] ++ a.defers } : Act).defers = ⟨.collected w.heap.size, #[]⟩ :: ds := by simp [h2]
  have hs' : Sees σ [] ({ a with defers := [{ target := .collected w.heap.size, args := #[] }] ++ a.defers } : Act) := ⟨h3.s, h3.d⟩
  rcases hend with ⟨_, L2, rfl, hI⟩ | ⟨j, _, c, L2, rfl, hX⟩
  · have hl2 := hp2.own (w.heap.size + 1, .loop (rec .ready none)) (by simp)
    have hel := run_endLoop (P := P) hl2 (by rw [hrec]; simp)
    refine J.step (stepR_endRangeFunc hel) ?_
    have hpe : (rec .ready none).pending = none := by rw [hrec]
    rw [hpe]
    refine hdone w.heap.size M2 L2 hM2 hI _ _ h1 hds hs' ?_
    exact (hp2.putObj (Upd.here _ _ _ _)).drop
  · have hl2 := hp2.own (w.heap.size + 1, .loop (rec .done (some c))) (by simp)
    have hel := run_endLoop (P := P) hl2 (by rw [hrec]; simp)
    refine J.step (stepR_endRangeFunc hel) ?_
    have hpe : (rec .done (some c)).pending = some c := by rw [hrec]
    rw [hpe]
    refine hjump c j w.heap.size M2 L2 hM2 hX _ _ h1 hds hs' ?_
    exact (hp2.putObj (Upd.here _ _ _ _)).drop

/-- a function that holds one range returns -/
theorem ret_mark {P : Program} {C : Cx} {fr : Frame} {w : World} {M : Mem} {L L1 : HL} {D : Nat} {ds : List Deferred} (hm : fr.mode = .returning) (hd : fr.defers = ⟨.collected D, #[]⟩ :: ds) (hp : Hp M L w) (hu : Upd L D (.deferred (some [])) (.deferred none) L1)
    (h : ∀ w', Hp M L1 w' → J P C.cs C.Φ { fr with defers := ds } w') : J P C.cs C.Φ fr w := by
  have ht := run_takeDeferred (P := P) (w := w) (b := D) (ds := []) (hp.own _ hu.mem)
  exact J.step (step_collected (by rw [hm]; simp) hd rfl ht) (h _ (hp.putObj hu))

theorem run_ret1 {P : Program} {f : FuncId} {fn : Func} {K : Value → Mem → HL → Prop} {C : Cx} {n : Nat} {k : List Item} {σ : Env} {M M' : Mem} {L L1 L' : HL} {D : Nat} (hC : FnCx P f fn K C) (hu : Upd L D (.deferred (some [])) (.deferred none) L1)
    {rs : List ResultVar} {vs : List Value} (hrs : fn.results.toList = rs) (hr : ResOk P M L1 σ rs vs)
    (hm : ∀ w, Hp M L1 w → Hp M' L' w) (hk : K (resVal vs) M' L') : Run P C n (.code .ret :: k) [⟨.collected D, #[]⟩] σ M L := fun a w _ h2 h3 h4 => by
  refine J.step (stepR_ret hC.ro) ?_
  refine ret_mark (D := D) (ds := []) rfl h2 h4 hu fun w' hw' => J.done ?_
  rw [hC.phi]
  refine ⟨resVal vs, M', L', hm w' hw', hk, hC.b, rfl, rfl, hC.kind, fn, ?_, ?_⟩
  · show P.funcs[C.b.fn]? = some fn; rw [hC.b]; exact hC.fnn
  · exact results_run h3 hw' (by rw [hrs]; exact hr)

theorem run_end1 {P : Program} {f : FuncId} {fn : Func} {K : Value → Mem → HL → Prop} {C : Cx} {n : Nat} {σ : Env} {M M' : Mem} {L L1 L' : HL} {D : Nat} (hC : FnCx P f fn K C) (hu : Upd L D (.deferred (some [])) (.deferred none) L1)
    {rs : List ResultVar} {vs : List Value} (hrs : fn.results.toList = rs) (hr : ResOk P M L1 σ rs vs)
    (hm : ∀ w, Hp M L1 w → Hp M' L' w) (hk : K (resVal vs) M' L') : Run P C n [] [⟨.collected D, #[]⟩] σ M L := fun a w _ h2 h3 h4 => by
  refine J.step (stepR_end hC.ro) ?_
  refine ret_mark (D := D) (ds := []) rfl h2 h4 hu fun w' hw' => J.done ?_
  rw [hC.phi]
  refine ⟨resVal vs, M', L', hm w' hw', hk, hC.b, rfl, rfl, hC.kind, fn, ?_, ?_⟩
  · show P.funcs[C.b.fn]? = some fn; rw [hC.b]; exact hC.fnn
  · exact results_run h3 hw' (by rw [hrs]; exact hr)

theorem run_ret2 {P : Program} {f : FuncId} {fn : Func} {K : Value → Mem → HL → Prop} {C : Cx} {n : Nat} {k : List Item} {σ : Env} {M M' : Mem} {L L0 L1 L' : HL} {D E : Nat} (hC : FnCx P f fn K C) (hv : Upd L D (.deferred (some [])) (.deferred none) L0) (hu : Upd L0 E (.deferred (some [])) (.deferred none) L1)
    {rs : List ResultVar} {vs : List Value} (hrs : fn.results.toList = rs) (hr : ResOk P M L1 σ rs vs)
    (hm : ∀ w, Hp M L1 w → Hp M' L' w) (hk : K (resVal vs) M' L') : Run P C n (.code .ret :: k) [⟨.collected D, #[]⟩, ⟨.collected E, #[]⟩] σ M L := fun a w _ h2 h3 h4 => by
  refine J.step (stepR_ret hC.ro) ?_
  refine ret_mark (D := D) (ds := [⟨.collected E, #[]⟩]) rfl h2 h4 hv fun w0 hw0 => ?_
  refine ret_mark (D := E) (ds := []) rfl rfl hw0 hu fun w' hw' => J.done ?_
  rw [hC.phi]
  refine ⟨resVal vs, M', L', hm w' hw', hk, hC.b, rfl, rfl, hC.kind, fn, ?_, ?_⟩
  · show P.funcs[C.b.fn]? = some fn; rw [hC.b]; exact hC.fnn
  · exact results_run h3 hw' (by rw [hrs]; exact hr)

end Go.Chi
