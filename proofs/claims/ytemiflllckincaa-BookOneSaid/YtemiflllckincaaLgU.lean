import Derived.Test.YtemiflllckincaaLgT
import Derived.Recover
namespace Go.Chi

/-! ### functions that may panic, and what they put off till their end -/
/-- a frame that runs no longer, in the mode u, with ds put off -/
def RunX (P : Program) (C : Cx) (n : Nat) (u : FrameMode) (ds : List Deferred) (σ : Env) (M : Mem) (L : HL) : Prop :=
  ∀ a w k, a.tmps.size = n → a.defers = ds → Sees σ [] a → Hp M L w → J P C.cs C.Φ { C.b.atR a k with mode := u } w

/-- a call comes to an end -/
def FnE (P : Program) (f : FuncId) (args : Array Value) (w : World) (R : Ending → World → Prop) : Prop :=
  ∀ cs, ∃ e w' fr, R e w' ∧ e ≠ .outgrown ∧ Steps P (lone (Frame.enter P f args .normal) cs w) (lone fr cs w') ∧ fr.fn = f ∧ fr.leaving P w' e
def TrE (P : Program) (f : FuncId) (args : List Value) (M : Mem) (L : HL) (K : Ending → Mem → HL → Prop) : Prop :=
  (∀ w, (callFunc f ⟨args⟩).run P w = .ok (.enter f ⟨args⟩) w) ∧ ∀ w, Hp M L w → FnE P f ⟨args⟩ w (fun e w' => ∃ M' L', Hp M' L' w' ∧ K e M' L')
def PhiE (P : Program) (f : FuncId) (K : Ending → Mem → HL → Prop) : Frame → World → Prop := fun fr w => ∃ e M L, Hp M L w ∧ K e M L ∧ e ≠ .outgrown ∧ fr.fn = f ∧ fr.leaving P w e
structure FnCxE (P : Program) (f : FuncId) (fn : Func) (K : Ending → Mem → HL → Prop) (C : Cx) : Prop where
  fnn : P.funcs[f]? = some fn
  b : C.b.fn = f
  kind : C.b.kind = .normal
  ro : C.b.roundOf = none
  phi : C.Φ = PhiE P f K
theorem TrE.intro {P : Program} {f : FuncId} {fn : Func} {c : Code} {args : List Value} {M : Mem} {L : HL} {K : Ending → Mem → HL → Prop} (n : Nat) (hf : P.funcs[f]? = some fn) (hb : fn.body = some c) (hn : fn.ntmps = n) (hc : ∀ args w, (callFunc f args).run P w = .ok (.enter f args) w)
    (ha : Nat.ble args.length n = true) (h : ∀ C, FnCxE P f fn K C → C.b.roundOf = none → Run P C n [.code c] [] (argEnv 0 args) M L) : TrE P f args M L K := by
  refine ⟨fun w => hc _ w, fun w hw cs => ?_⟩
  have ha := Nat.le_of_ble_eq_true ha
  let b : Frame := { (default : Frame) with fn := f, kind := .normal, roundOf := none }
  have henter : Frame.enter P f ⟨args⟩ .normal = b.atR { tmps := ⟨args⟩ ++ Array.replicate (n - args.length) undef, defers := [] } [.code c] := by
    simp [Frame.enter, Frame.atR, hf, hb, hn, b]
  have hrun := h ⟨b, cs, PhiE P f K⟩ ⟨hf, rfl, rfl, rfl, rfl⟩ rfl { tmps := ⟨args⟩ ++ Array.replicate (n - args.length) undef, defers := [] } w (by simp; omega) rfl
    ⟨fun t v e => by
      obtain ⟨_, h2⟩ := argEnv_lks e
      simp only [Nat.sub_zero] at h2
      have hlt : t < args.length := (List.getElem?_eq_some_iff.1 h2).1
      rw [Array.getElem?_append, if_pos (by simpa using hlt)]
      simpa using h2, fun t p v e => by simp [lkd] at e⟩ hw
  obtain ⟨fr', w', hs, e, M', L', h1, h2, h3, h4, h5⟩ := hrun
  rw [henter]
  exact ⟨e, w', fr', ⟨M', L', h1, h2⟩, h3, hs, h4, h5⟩
theorem TrE.tr {P : Program} {f : FuncId} {args : List Value} {M : Mem} {L : HL} {K : Ending → Mem → HL → Prop} {K' : Value → Mem → HL → Prop} (h : TrE P f args M L K) (hk : ∀ e M' L', K e M' L' → ∃ v, e = .returned v ∧ K' v M' L') : Tr P f args M L K' :=
  ⟨h.1, fun w hw cs => by
    obtain ⟨e, w', fr, ⟨M', L', hp, hK⟩, _, hs, hfn, hl⟩ := h.2 w hw cs
    obtain ⟨v, rfl, hK'⟩ := hk e M' L' hK
    exact ⟨v, w', fr, ⟨M', L', hp, hK'⟩, hs, hfn, hl⟩⟩
theorem Tr.toE {P : Program} {f : FuncId} {args : List Value} {M : Mem} {L : HL} {K : Value → Mem → HL → Prop} (h : Tr P f args M L K) : TrE P f args M L (fun e M' L' => ∃ v, e = .returned v ∧ K v M' L') :=
  ⟨h.1, fun w hw cs => by
    obtain ⟨v, w', fr, ⟨M', L', hp, hK⟩, hs, hfn, hl⟩ := h.2 w hw cs
    exact ⟨.returned v, w', fr, ⟨M', L', hp, v, rfl, hK⟩, by simp, hs, hfn, hl⟩⟩

section
variable {P : Program} {C : Cx} {n : Nat} {k : List Item} {ds : List Deferred} {σ : Env} {δ : Den} {M : Mem} {L : HL} {ops : Array Oper}
theorem run_retX (hro : C.b.roundOf = none) (h : RunX P C n .returning ds σ M L) : Run P C n (.code .ret :: k) ds σ M L := fun a w h1 h2 h3 h4 =>
  J.step (stepR_ret hro) (h a w _ h1 h2 h3 h4)
theorem run_endX (hro : C.b.roundOf = none) (h : RunX P C n .returning ds σ M L) : Run P C n [] ds σ M L := fun a w h1 h2 h3 h4 =>
  J.step (stepR_end hro) (h a w _ h1 h2 h3 h4)
theorem runX_ret {f : FuncId} {fn : Func} {K : Ending → Mem → HL → Prop} {M' : Mem} {L' : HL} (hC : FnCxE P f fn K C) {rs : List ResultVar} {vs : List Value} (hrs : fn.results.toList = rs) (hr : ResOk P M L σ rs vs)
    (hm : ∀ w, Hp M L w → Hp M' L' w) (hk : K (.returned (resVal vs)) M' L') : RunX P C n .returning [] σ M L := fun a w k _ h2 h3 h4 => by
  refine J.done ?_
  rw [hC.phi]
  refine ⟨.returned (resVal vs), M', L', hm w h4, hk, by simp, hC.b, rfl, h2, hC.kind, fn, ?_, ?_⟩
  · show P.funcs[C.b.fn]? = some fn; rw [hC.b]; exact hC.fnn
  · exact results_run h3 h4 (by rw [hrs]; exact hr)
theorem runX_pan {f : FuncId} {fn : Func} {K : Ending → Mem → HL → Prop} {M' : Mem} {L' : HL} {ch : List PanicEntry} (hC : FnCxE P f fn K C)
    (hm : ∀ w, Hp M L w → Hp M' L' w) (hk : K (.panicked ch) M' L') : RunX P C n (.panicking ch) [] σ M L := fun a w k _ h2 _ h4 => by
  refine J.done ?_
  rw [hC.phi]
  refine ⟨.panicked ch, M', L', hm w h4, hk, by simp, hC.b, rfl, h2, fn, ?_⟩
  show P.funcs[C.b.fn]? = some fn; rw [hC.b]; exact hC.fnn
/-- a call of what may panic, in a region in order -/
theorem runL_callE {d : Nat} {ty : TypeId} {pos : String} {aft : Array Edge} {l : List Oper} {f : FuncId} {args : Array Operand} {tys : Array TypeId} {vs : List Value} {K : Ending → Mem → HL → Prop}
    (ha : evs σ δ [] args.toList = some vs) (ht : TrE P f vs M L K) (hd : Nat.blt d n = true) (hn : lkd δ d = none) (hu : unNamed δ d = true)
    (h : ∀ v M' L', K (.returned v) M' L' → RunL P C n ops l k ds ((d, v) :: σ) δ M' L') (hp : ∀ ch M' L', K (.panicked ch) M' L' → RunX P C n (.panicking ch) ds σ M' L') :
    RunL P C n ops (⟨some d, .call ⟨.value (.func f), args, tys⟩, ty, pos, aft, none⟩ :: l) k ds σ δ M L := fun a w idx h1 h2 h3 h4 h5 => by
  cases idx with
  | nil => simp at h5
  | cons i r =>
    simp only [List.map_cons, List.cons.injEq] at h5
    have hg := stepGR_op (P := P) (b := C.b) (k := k) (cs := C.cs) (w := w) (rest := r) (a := a) h5.1 (wanted_none rfl _)
    have hr : ((⟨some d, .call ⟨.value (.func f), args, tys⟩, ty, pos, aft, none⟩ : Oper).semAt C.b.roundOf a.eval).run P w = .ok (.enter f ⟨vs⟩) w := by
      rw [semAt_of (by intro c e; cases e)]
      have e1 : args.map a.eval = ⟨vs⟩ := by apply Array.ext'; simpa using evs_sound h3 (holds_nil a) ha
      simp only [execOp, resolve, e1, Act.eval, Deferred.ofValue, Sem.run_bind, Sem.run_pure, Result.andThen_ok, invoke]
      simpa using ht.1 w
    obtain ⟨e, w'', fr, ⟨M', L', hp', hK⟩, hne, hs, _, hl⟩ := ht.2 w h4 (C.b.atR a (.inRegion ops (i :: r) :: k) :: C.cs)
    have henter : step P (lone (C.b.atR a (.inRegion ops (i :: r) :: k)) C.cs w) =
        .next (lone (Frame.enter P f ⟨vs⟩ .normal) (C.b.atR a (.inRegion ops (i :: r) :: k) :: C.cs) w) :=
      step_lone_go (by rw [hg]; simp [stepG.apply, hr, Frame.atR])
    have hd' : d < a.tmps.size := by rw [h1]; exact Nat.blt_eq.mp hd
    cases e with
    | outgrown => exact absurd rfl hne
    | returned v =>
      have hstep := step_leave_returned (c := C.b.atR a (.inRegion ops (i :: r) :: k)) (cs := C.cs) hl
      rw [finish_op h5.1] at hstep
      exact J.steps (.head henter (hs.trans (.one hstep))) (h v M' L' hK _ w'' r (by rw [put_size]; exact h1) (by rw [put_defers]; exact h2) (h3.put hd' hn hu v) hp' h5.2)
    | panicked ch =>
      have hstep := step_leave_panicked (c := C.b.atR a (.inRegion ops (i :: r) :: k)) (cs := C.cs) hl
      have hra : (C.b.atR a (.inRegion ops (i :: r) :: k)).raise ch = { C.b.atR a (.inRegion ops (i :: r) :: k) with mode := .panicking ch } := by simp [Frame.raise, Frame.atR]
      rw [hra] at hstep
      exact J.steps (.head henter (hs.trans (.one hstep))) (hp ch M' L' hK a w'' _ h1 h2 h3.nil hp')
end
end Go.Chi
