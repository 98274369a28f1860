import Derived.Test.YtemiflllckincaaLgS
import Derived.RangeFuncLeaves
import Derived.RangeFuncRecord
namespace Go.Chi

/-- function g, called with yield, hands it xs, one behind the other, as long as it says yes; what is kept between two of them stays so, if more is known for good -/
def IterM (P : Program) (g : FuncId) (caps : List Value) (M : Mem) (xs : List (List Value)) : Prop :=
  ∀ (l : Nat) (I X : Nat → Mem → HL → Prop) (M0 : Mem) (L0 : HL), M.le M0 → (∀ k M1 M2 L1, M1.le M2 → I k M1 L1 → I k M2 L1) →
    (∀ k x M1 L1 F, xs[k]? = some x → M0.le M1 → I k M1 L1 → YieldTo P l x M1 (F ++ L1) (fun v M2 Lt => ∃ L2, Lt = F ++ L2 ∧ M1.le M2 ∧ ((v = .bool true ∧ I (k + 1) M2 L2) ∨ (v = .bool false ∧ X k M2 L2)))) →
    I 0 M0 L0 →
    Tr P g (yv l :: caps) M0 L0 (fun _ M2 Lt => M0.le M2 ∧ (I xs.length M2 Lt ∨ ∃ k, X k M2 Lt))
theorem IterM.le {P : Program} {g : FuncId} {caps : List Value} {M M' : Mem} {xs : List (List Value)} (h : IterM P g caps M xs) (hm : M.le M') : IterM P g caps M' xs :=
  fun l I X M0 L0 hle => h l I X M0 L0 (Mem.le_trans hm hle)

/-- the statement -/
theorem run_rangeM {P : Program} {C : Cx} {n : Nat} {k : List Item} {ds : List Deferred} {σ : Env} {M : Mem} {L : HL} {f : Operand} {ps : Array Tmp} {assign body : Code} {g : FuncId} {caps : Array Value} {xs : List (List Value)}
    (hro : C.b.roundOf = none) (hf : ev σ [] [] f = some (.func (.func g) #[] caps)) (hit : IterM P g caps.toList M xs)
    (hps : ps.toList.all (fun p => Nat.blt p n) = true) (hxs : ∀ x ∈ xs, x.length = ps.size)
    (I : Nat → Mem → HL → Prop) (X : Code → Nat → Mem → HL → Prop) (hmono : ∀ k M1 M2 L1, M1.le M2 → I k M1 L1 → I k M2 L1) (h0 : I 0 M L)
    (hbody : ∀ j x M1 L1 R R' C', xs[j]? = some x → M.le M1 → I j M1 L1 → RdB P C' n M1 R R' (I (j + 1)) (fun c => X c j) → Run P C' n [.code assign, .beginRound, .code body] [] (setPs ps.toList x σ) M1 (L1 ++ R))
    (hdone : ∀ D M2 L2, M.le M2 → I xs.length M2 L2 → Run P C n k (⟨.collected D, #[]⟩ :: ds) σ M2 ((D, .deferred (some [])) :: L2))
    (hjump : ∀ c j D M2 L2, M.le M2 → X c j M2 L2 → Run P C n (.code c :: k) (⟨.collected D, #[]⟩ :: ds) σ M2 ((D, .deferred (some [])) :: L2)) :
    Run P C n (.code (.rangeFunc f ps assign body) :: k) ds σ M L := fun a w h1 h2 h3 h4 => by
  obtain ⟨rec, hrec⟩ : ∃ rec : LoopState → Option Code → Loop, rec = fun st pe => { state := st, pending := pe, fn := C.b.fn, tmps := a.tmps, params := ps, assign, body, defers := w.heap.size } := ⟨_, rfl⟩
  have hent := run_enterLoop_outer (P := P) (w := w) C.b.fn a.tmps ps assign body
  have hp1 : Hp M ((w.heap.size + 1, .loop (rec .ready none)) :: (w.heap.size, .deferred (some [])) :: L) ((w.alloc (.deferred (some []))).alloc (.loop (rec .ready none))) := by
    have a1 := h4.push (.deferred (some []))
    have a2 := a1.push (.loop (rec .ready none))
    simp only [Array.size_push] at a2
    exact a2
  have hlp : w.heap.size + 1 ≠ w.heap.size := by omega
  -- what the caller's memory is, between two rounds
  let I' : Nat → Mem → HL → Prop := fun j M' L' => M.le M' ∧ ∃ L1, L' = (w.heap.size + 1, .loop (rec .ready none)) :: (w.heap.size, .deferred (some [])) :: L1 ∧ I j M' L1
  let X' : Nat → Mem → HL → Prop := fun j M' L' => M.le M' ∧ ∃ c L1, L' = (w.heap.size + 1, .loop (rec .done (some c))) :: (w.heap.size, .deferred (some [])) :: L1 ∧ X c j M' L1
  have htr := hit (w.heap.size + 1) I' X' M ((w.heap.size + 1, .loop (rec .ready none)) :: (w.heap.size, .deferred (some [])) :: L) (Mem.le_refl M) (fun k M1 M2 L1 hle ⟨h1, L2, h2, h3⟩ => ⟨Mem.le_trans h1 hle, L2, h2, hmono k M1 M2 L2 hle h3⟩) ?body ⟨Mem.le_refl M, L, rfl, h0⟩
  case body =>
    rintro j x M1 L1' F hx hM1 ⟨_, L1, rfl, hI⟩ w1 hw1
    have hl : w1.heap[w.heap.size + 1]? = some (.loop (rec .ready none)) := hw1.own (w.heap.size + 1, .loop (rec .ready none)) (by simp)
    have hlen : x.length = ps.size := hxs x (List.mem_of_getElem? hx)
    rw [run_yield (P := P) (args := ⟨x⟩) hl (by rw [hrec]; simpa using hlen)]
    show Rd P _ _ _ _ _ w1 _
    intro c cs
    let b : Frame := { (default : Frame) with fn := (rec .ready none).fn, kind := .normal, roundOf := some (w.heap.size + 1) }
    obtain ⟨hsee, hsz⟩ := sees_setPs (n := n) ps.toList x σ a.tmps [] (fun p hp => Nat.blt_eq.mp (List.all_eq_true.1 hps p hp)) h1 (by simpa using hlen.symm) ⟨h3.s, h3.d⟩
    have htm : (((rec .ready none).params.zip ⟨x⟩).foldl (fun (tmps : Array Value) (y : Nat × Value) => tmps.setIfInBounds y.1 y.2) (rec .ready none).tmps) = (ps.toList.zip x).foldl (fun t y => t.setIfInBounds y.1 y.2) a.tmps := by
      rw [hrec]
      rw [← Array.foldl_toList, Array.toList_zip]
    have hfr : Frame.round (w.heap.size + 1) (rec .ready none).fn (((rec .ready none).params.zip ⟨x⟩).foldl (fun (tmps : Array Value) (y : Nat × Value) => tmps.setIfInBounds y.1 y.2) (rec .ready none).tmps) (rec .ready none).assign (rec .ready none).body .normal =
        b.atR ⟨(ps.toList.zip x).foldl (fun t y => t.setIfInBounds y.1 y.2) a.tmps, []⟩ [.code assign, .beginRound, .code body] := by
      rw [htm]; simp [Frame.round, Frame.atR, b, hrec]
    let K : Value → Mem → HL → Prop := fun v M2 Lt => ∃ L2, Lt = F ++ L2 ∧ M1.le M2 ∧ ((v = .bool true ∧ I' (j + 1) M2 L2) ∨ (v = .bool false ∧ X' j M2 L2))
    let Φ : Frame → World → Prop := fun fr w2 => ∃ v w', ∃ M' L', Hp M' L' w' ∧ K v M' L' ∧ step P (lone fr (c :: cs) w2) = .next (lone (c.finish v) cs w')
    have hC : RdCx P (w.heap.size + 1) K ⟨b, c :: cs, Φ⟩ := ⟨rfl, rfl, c, cs, rfl, rfl⟩
    have hMM : M.le M1 := hM1
    -- the round's frame, with the loop's record behind
    have perm1 : ∀ (o : Obj) (L2 : HL), (L2 ++ ((w.heap.size + 1, o) :: (w.heap.size, .deferred (some [])) :: F)).Perm (F ++ ((w.heap.size + 1, o) :: (w.heap.size, .deferred (some [])) :: L2)) := fun o L2 => by
      refine List.perm_append_comm.trans ?_
      refine List.Perm.trans ?_ List.perm_append_comm
      simp only [List.cons_append]
      refine List.Perm.cons _ (List.Perm.cons _ ?_)
      exact List.perm_append_comm
    have upd : ∀ (o o' : Obj) (L2 : HL), Upd (F ++ ((w.heap.size + 1, o) :: (w.heap.size, .deferred (some [])) :: L2)) (w.heap.size + 1) o o' (F ++ ((w.heap.size + 1, o') :: (w.heap.size, .deferred (some [])) :: L2)) :=
      fun o o' L2 => (Upd.here _ _ _ _).append_left F
    have hb := hbody j x M1 L1 ((w.heap.size + 1, .loop (rec .ready none)) :: (w.heap.size, .deferred (some [])) :: F) ((w.heap.size + 1, .loop (rec .busy none)) :: (w.heap.size, .deferred (some [])) :: F) ⟨b, c :: cs, Φ⟩ hx hMM hI {
      begin_ := fun k σ M L2 h => by
        refine run_perm (perm1 _ L2) ?_
        refine rd_begin hC (r := rec .ready none) (upd _ _ L2) (by rw [hrec]) ?_
        refine run_perm (perm1 _ L2).symm ?_
        rw [hrec] at h ⊢
        exact h
      fin := fun σ M2 L2 hM2 hJ => by
        refine run_perm (perm1 _ L2) ?_
        refine rd_end hC (r := rec .busy none) (upd _ _ L2) ?_
        refine ⟨_, rfl, hM2, .inl ⟨rfl, Mem.le_trans hMM hM2, L2, ?_, hJ⟩⟩
        rw [hrec]
      ret := fun k σ M2 L2 hM2 hX => by
        refine run_perm (perm1 _ L2) ?_
        refine rd_ret hC (r := rec .busy none) (upd _ _ L2) ?_
        refine ⟨_, rfl, hM2, .inr ⟨rfl, Mem.le_trans hMM hM2, .ret, L2, ?_, hX⟩⟩
        rw [hrec]
      exit := fun id k σ M2 L2 hx hM2 hX => by
        refine run_perm (perm1 _ L2) ?_
        refine rd_exit hC (r := rec .busy none) hx (upd _ _ L2) ?_
        refine ⟨_, rfl, hM2, .inr ⟨rfl, Mem.le_trans hMM hM2, .exit id, L2, ?_, hX⟩⟩
        rw [hrec] }
    obtain ⟨fr', w2, hs, v, w3, M', L', hp3, hK, hstep⟩ := hb _ w1 hsz rfl hsee (hw1.perm (perm1 _ L1).symm)
    rw [hfr]
    exact ⟨v, w3, ⟨M', L', hp3, hK⟩, hs.trans (.one hstep)⟩
  -- the call
  have hres : (resolve a.eval (rangeCall f (w.heap.size + 1)) 0).run P ((w.alloc (.deferred (some []))).alloc (.loop (rec .ready none))) = .ok { target := .fn (.func g) caps, args := #[yv (w.heap.size + 1)] } ((w.alloc (.deferred (some []))).alloc (.loop (rec .ready none))) := by
    have h5 := ev_sound h3 (holds_nil a) hf
    have h6 : (#[Operand.const (.func (.yield (w.heap.size + 1)) #[] #[])] : Array Operand).map a.eval = #[yv (w.heap.size + 1)] := by simp [Act.eval, yv]
    simp only [resolve, rangeCall, h5, h6, Deferred.ofValue, Sem.run_pure]
    simp
  have hinv : (invoke (.fn (.func g) caps) #[yv (w.heap.size + 1)]).run P ((w.alloc (.deferred (some []))).alloc (.loop (rec .ready none))) = .ok (.enter g ⟨yv (w.heap.size + 1) :: caps.toList⟩) ((w.alloc (.deferred (some []))).alloc (.loop (rec .ready none))) := by
    have e : (#[yv (w.heap.size + 1)] ++ caps : Array Value) = ⟨yv (w.heap.size + 1) :: caps.toList⟩ := by apply Array.ext'; simp
    simp only [invoke, e]
    exact htr.1 _
  have henter := stepR_rangeFunc (P := P) (b := C.b) (a := a) (k := k) (cs := C.cs) (w := w) (g := f) (ps := ps) (assign := assign) (body := body) (by rw [hro]; exact hent) (by rw [hrec] at hres; exact hres) (by rw [hrec] at hinv; exact hinv)
  obtain ⟨v, w2, fr, ⟨M2, Lt, hp2, hM2, hend⟩, hsteps, _, hleave⟩ := htr.2 _ hp1 (C.b.atR { a with defers := [{ target := .collected w.heap.size, args := #[] }] ++ a.defers } (.inRangeFunc (w.heap.size + 1) :: k) :: C.cs)
  have hback : Steps P (lone (C.b.atR a (.code (.rangeFunc f ps assign body) :: k)) C.cs w) (lone (C.b.atR { a with defers := [{ target := .collected w.heap.size, args := #[] }] ++ a.defers } (.endRangeFunc (w.heap.size + 1) :: k)) C.cs w2) := by
    refine .head henter ?_
    rw [hrec] at hsteps
    refine hsteps.trans (.one ?_)
    rw [← finish_atR_inRangeFunc (w.heap.size + 1) v]
    exact step_leave_returned hleave
  refine J.steps hback ?_
  have hds : ({ a with defers := [{ target := .collected w.heap.size, args := #[] }] ++ a.defers } : Act).defers = ⟨.collected w.heap.size, #[]⟩ :: ds := by simp [h2]
  have hs' : Sees σ [] ({ a with defers := [{ target := .collected w.heap.size, args := #[] }] ++ a.defers } : Act) := ⟨h3.s, h3.d⟩
  rcases hend with ⟨_, L2, rfl, hI⟩ | ⟨j, _, c, L2, rfl, hX⟩
  · have hl2 := hp2.own (w.heap.size + 1, .loop (rec .ready none)) (by simp)
    have hel := run_endLoop (P := P) hl2 (by rw [hrec]; simp)
    refine J.step (stepR_endRangeFunc hel) ?_
    have hpe : (rec .ready none).pending = none := by rw [hrec]
    rw [hpe]
    refine hdone w.heap.size M2 L2 hM2 hI _ _ h1 hds hs' ?_
    exact (hp2.putObj (Upd.here _ _ _ _)).drop
  · have hl2 := hp2.own (w.heap.size + 1, .loop (rec .done (some c))) (by simp)
    have hel := run_endLoop (P := P) hl2 (by rw [hrec]; simp)
    refine J.step (stepR_endRangeFunc hel) ?_
    have hpe : (rec .done (some c)).pending = some c := by rw [hrec]
    rw [hpe]
    refine hjump c j w.heap.size M2 L2 hM2 hX _ _ h1 hds hs' ?_
    exact (hp2.putObj (Upd.here _ _ _ _)).drop

end Go.Chi
