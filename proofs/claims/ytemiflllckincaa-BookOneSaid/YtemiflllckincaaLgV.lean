import Derived.Test.YtemiflllckincaaLgU
namespace Go.Chi

section
variable {P : Program} {C : Cx} {n : Nat} {k : List Item} {ds : List Deferred} {σ : Env} {δ : Den} {M : Mem} {L : HL} {ops : Array Oper}
/-- a call is put off till the end -/
theorem runL_defer {x : Operand} {f : FuncId} {args : Array Operand} {tys : Array TypeId} {first cap : Array Value} {vs : List Value} {ty : TypeId} {pos : String} {aft : Array Edge} {l : List Oper} (hro : C.b.roundOf = none)
    (hx : ev σ δ [] x = some (.func (.func f) first cap)) (ha : evs σ δ [] args.toList = some vs)
    (h : RunL P C n ops l k (⟨.fn (.func f) cap, first ++ ⟨vs⟩⟩ :: ds) σ δ M L) :
    RunL P C n ops (⟨none, .defer ⟨.value x, args, tys⟩, ty, pos, aft, none⟩ :: l) k ds σ δ M L := fun a w idx h1 h2 h3 h4 h5 => by
  cases idx with
  | nil => simp at h5
  | cons i r =>
    simp only [List.map_cons, List.cons.injEq] at h5
    have hg := stepGR_op (P := P) (b := C.b) (k := k) (cs := C.cs) (w := w) (rest := r) (a := a) h5.1 (wanted_none rfl _)
    have hr : ((⟨none, .defer ⟨.value x, args, tys⟩, ty, pos, aft, none⟩ : Oper).semAt C.b.roundOf a.eval).run P w = .ok (.defer ⟨.fn (.func f) cap, first ++ ⟨vs⟩⟩) w := by
      rw [hro]
      have e1 : args.map a.eval = ⟨vs⟩ := by apply Array.ext'; simpa using evs_sound h3 (holds_nil a) ha
      simp [Oper.semAt, execOp, resolve, e1, ev_sound h3 (holds_nil a) hx, Deferred.ofValue]
    have hstep : step P (lone (C.b.atR a (.inRegion ops (i :: r) :: k)) C.cs w) =
        .next (lone (C.b.atR { a with defers := ⟨.fn (.func f) cap, first ++ ⟨vs⟩⟩ :: a.defers } (.inRegion ops r :: k)) C.cs w) := by
      refine step_lone_go ?_
      have hfin := finish_op (b := C.b) (a := { a with defers := ⟨.fn (.func f) cap, first ++ ⟨vs⟩⟩ :: a.defers }) (rest := r) (k := k) h5.1 undef
      simp only [Act.put] at hfin
      rw [hg, ← hfin]
      simp [stepG.apply, hr, Frame.atR]
    refine J.step hstep (h _ w r h1 (by rw [← h2]) ?_ h4 h5.2)
    exact ⟨fun t v e => h3.1 t v e, fun t p v e => h3.2 t p v e⟩
/-- a panic -/
theorem runL_panic {x : Operand} {t : TypeId} {v : Value} {ty : TypeId} {pos : String} {aft : Array Edge} {l : List Oper} (hro : C.b.roundOf = none)
    (hx : ev σ δ [] x = some (.iface t v)) (h : RunX P C n (.panicking [{ v := .iface t v, recovered := false }]) ds σ M L) :
    RunL P C n ops (⟨none, .panic x, ty, pos, aft, none⟩ :: l) k ds σ δ M L := fun a w idx h1 h2 h3 h4 h5 => by
  cases idx with
  | nil => simp at h5
  | cons i r =>
    simp only [List.map_cons, List.cons.injEq] at h5
    have hg := stepGR_op (P := P) (b := C.b) (k := k) (cs := C.cs) (w := w) (rest := r) (a := a) h5.1 (wanted_none rfl _)
    have hr : ((⟨none, .panic x, ty, pos, aft, none⟩ : Oper).semAt C.b.roundOf a.eval).run P w = .halt (.panic (.iface t v)) w := by
      rw [hro]
      simp [Oper.semAt, execOp, ev_sound h3 (holds_nil a) hx, Instr.panic, goPanic]
    have hra : (C.b.atR a (.inRegion ops (i :: r) :: k)).raise [{ v := .iface t v, recovered := false }] = { C.b.atR a (.inRegion ops (i :: r) :: k) with mode := .panicking [{ v := .iface t v, recovered := false }] } := by simp [Frame.raise, Frame.atR]
    have hstep : step P (lone (C.b.atR a (.inRegion ops (i :: r) :: k)) C.cs w) = .next (lone { C.b.atR a (.inRegion ops (i :: r) :: k) with mode := .panicking [{ v := .iface t v, recovered := false }] } C.cs w) := by
      refine step_lone_go ?_
      rw [hg, ← hra]
      simp [stepG.apply, hr]
    exact J.step hstep (h a w _ h1 h2 h3.nil h4)
end

/-! ### a call that was put off -/
/-- the frame below: its function's end is held up -/
def below (C : Cx) (a0 : Act) (k0 : List Item) (u : FrameMode) : Frame := { C.b.atR a0 k0 with mode := u }
/-- a call that was put off, over a frame in the mode u: when it ends, that frame goes on -/
def DCx (P : Program) (f : FuncId) (C : Cx) (a0 : Act) (k0 : List Item) (u : FrameMode) : Cx :=
  ⟨{ (default : Frame) with fn := f, kind := .deferred, roundOf := none }, below C a0 k0 u :: C.cs, fun fr w => ∃ fr' w', Steps P (lone fr (below C a0 k0 u :: C.cs) w) (lone fr' C.cs w') ∧ C.Φ fr' w'⟩
theorem runX_defer {P : Program} {C : Cx} {n : Nat} {ds : List Deferred} {σ : Env} {M : Mem} {L : HL} {u : FrameMode} {f : FuncId} {fn : Func} {c : Code} {cap dargs : Array Value} {args : List Value} (nD : Nat) (hu : u ≠ .run) (hf : P.funcs[f]? = some fn) (hb : fn.body = some c) (hn : fn.ntmps = nD)
    (hc : ∀ args w, (callFunc f args).run P w = .ok (.enter f args) w) (hargs : dargs ++ cap = ⟨args⟩) (ha : Nat.ble args.length nD = true)
    (h : ∀ a0 k0, a0.tmps.size = n → a0.defers = ds → Sees σ [] a0 → Run P (DCx P f C a0 k0 u) nD [.code c] [] (argEnv 0 args) M L) :
    RunX P C n u (⟨.fn (.func f) cap, dargs⟩ :: ds) σ M L := fun a w k h1 h2 h3 h4 => by
  have ha := Nat.le_of_ble_eq_true ha
  have hstep := step_defer (P := P) (fr := { C.b.atR a k with mode := u }) (cs := C.cs) (w := w) (d := ⟨.fn (.func f) cap, dargs⟩) (ds := ds) (f := f) (args := ⟨args⟩) hu h2 rfl (by
    show (callFunc f (dargs ++ cap)).run P w = _
    rw [hargs]; exact hc _ w)
  have henter : Frame.enter P f ⟨args⟩ .deferred = (DCx P f C { a with defers := ds } k u).b.atR { tmps := ⟨args⟩ ++ Array.replicate (nD - args.length) undef, defers := [] } [.code c] := by
    simp [Frame.enter, Frame.atR, hf, hb, hn, DCx]
  have hrun := h { a with defers := ds } k h1 rfl ⟨fun t v e => h3.1 t v e, fun t p v e => h3.2 t p v e⟩ { tmps := ⟨args⟩ ++ Array.replicate (nD - args.length) undef, defers := [] } w (by simp; omega) rfl
    ⟨fun t v e => by
      obtain ⟨_, h2⟩ := argEnv_lks e
      simp only [Nat.sub_zero] at h2
      have hlt : t < args.length := (List.getElem?_eq_some_iff.1 h2).1
      rw [Array.getElem?_append, if_pos (by simpa using hlt)]
      simpa using h2, fun t p v e => by simp [lkd] at e⟩ h4
  obtain ⟨fr1, w1, hs1, fr2, w2, hs2, hphi⟩ := hrun
  rw [← henter] at hs1
  exact ⟨fr2, w2, .head hstep (hs1.trans hs2), hphi⟩
section
variable {P : Program} {C : Cx} {n : Nat} {ds : List Deferred} {σ : Env} {M : Mem} {L : HL} {f : FuncId} {fn : Func} {a0 : Act} {k0 : List Item} {u : FrameMode}
theorem runX_dret {nD : Nat} {σD : Env} (hf : P.funcs[f]? = some fn) (hres : fn.results = #[]) (h1 : a0.tmps.size = n) (h2 : a0.defers = ds) (h3 : Sees σ [] a0) (h : RunX P C n (settle u) ds σ M L) : RunX P (DCx P f C a0 k0 u) nD .returning [] σD M L := fun a w k _ h5 _ h4 => by
  have hgo : Frame.going P { (DCx P f C a0 k0 u).b.atR a k with mode := .returning } w (.returned (.tuple #[])) := ⟨rfl, h5, fn, hf, by simp [results, hres]⟩
  have hstep := step_going_returned (c := below C a0 k0 u) (cs := C.cs) (fr := { (DCx P f C a0 k0 u).b.atR a k with mode := .returning }) rfl hgo
  obtain ⟨fr', w', hs, hphi⟩ := h a0 w k0 h1 h2 h3 h4
  exact J.done ⟨fr', w', .head hstep hs, hphi⟩
theorem runX_dpan {nD : Nat} {σD : Env} {ch : List PanicEntry} (hf : P.funcs[f]? = some fn) (h1 : a0.tmps.size = n) (h2 : a0.defers = ds) (h3 : Sees σ [] a0) (h : RunX P C n (raised u ch) ds σ M L) : RunX P (DCx P f C a0 k0 u) nD (.panicking ch) [] σD M L := fun a w k _ h5 _ h4 => by
  have hgo : Frame.going P { (DCx P f C a0 k0 u).b.atR a k with mode := .panicking ch } w (.panicked ch) := ⟨rfl, h5, fn, hf⟩
  have hstep := step_going_panicked (c := below C a0 k0 u) (cs := C.cs) (fr := { (DCx P f C a0 k0 u).b.atR a k with mode := .panicking ch }) hgo
  obtain ⟨fr', w', hs, hphi⟩ := h a0 w k0 h1 h2 h3 h4
  exact J.done ⟨fr', w', .head hstep hs, hphi⟩
/-- recover, where nothing was thrown -/
theorem runL_recover0 {d nD : Nat} {ty : TypeId} {pos : String} {aft : Array Edge} {l : List Oper} {ops : Array Oper} {k : List Item} {dsD : List Deferred} {σD : Env} {δ : Den} {tys : Array TypeId} (hd : Nat.blt d nD = true) (hn : lkd δ d = none) (hu' : unNamed δ d = true)
    (h : RunL P (DCx P f C a0 k0 .returning) nD ops l k dsD ((d, .nilIface) :: σD) δ M L) : RunL P (DCx P f C a0 k0 .returning) nD ops (⟨some d, .call ⟨.builtin .recover, #[], tys⟩, ty, pos, aft, none⟩ :: l) k dsD σD δ M L := fun a w idx h1 h2 h3 h4 h5 => by
  cases idx with
  | nil => simp at h5
  | cons i r =>
    simp only [List.map_cons, List.cons.injEq] at h5
    have hg := stepGR_op (P := P) (b := (DCx P f C a0 k0 .returning).b) (k := k) (cs := (DCx P f C a0 k0 .returning).cs) (w := w) (rest := r) (a := a) h5.1 (wanted_none rfl _)
    have hr : ((⟨some d, .call ⟨.builtin .recover, #[], tys⟩, ty, pos, aft, none⟩ : Oper).semAt (DCx P f C a0 k0 .returning).b.roundOf a.eval).run P w = .ok .recover w := by
      simp [DCx, Oper.semAt, execOp, resolve, invoke, builtin]
    have htr : tryRecover ((DCx P f C a0 k0 .returning).b.atR a (.inRegion ops (i :: r) :: k)) (DCx P f C a0 k0 .returning).cs = none := by
      rw [tryRecover_deferred rfl]
      simp [DCx, recoverD, below]
    have hstep : step P (lone ((DCx P f C a0 k0 .returning).b.atR a (.inRegion ops (i :: r) :: k)) (DCx P f C a0 k0 .returning).cs w) =
        .next (lone ((DCx P f C a0 k0 .returning).b.atR (a.put (some d) .nilIface) (.inRegion ops r :: k)) (DCx P f C a0 k0 .returning).cs w) := by
      refine step_lone_go ?_
      have hfin := finish_op (b := (DCx P f C a0 k0 .returning).b) (a := a) (rest := r) (k := k) h5.1 .nilIface
      rw [hg, ← hfin]
      have hro : ((DCx P f C a0 k0 .returning).b.atR a (.inRegion ops (i :: r) :: k)).roundOf = none := rfl
      simp [stepG.apply, hr, htr, hro]
    have hd' : d < a.tmps.size := by rw [h1]; exact Nat.blt_eq.mp hd
    exact J.step hstep (h _ w r (by rw [put_size]; exact h1) (by rw [put_defers]; exact h2) (h3.put hd' hn hu' _) h4 h5.2)
/-- recover, of a panic -/
theorem runL_recover {d nD : Nat} {v : Value} {older : List PanicEntry} {ty : TypeId} {pos : String} {aft : Array Edge} {l : List Oper} {ops : Array Oper} {k : List Item} {dsD : List Deferred} {σD : Env} {δ : Den} {tys : Array TypeId} (hd : Nat.blt d nD = true) (hn : lkd δ d = none) (hu' : unNamed δ d = true)
    (h : RunL P (DCx P f C a0 k0 (.panicking ({ v, recovered := true } :: older))) nD ops l k dsD ((d, v) :: σD) δ M L) : RunL P (DCx P f C a0 k0 (.panicking ({ v, recovered := false } :: older))) nD ops (⟨some d, .call ⟨.builtin .recover, #[], tys⟩, ty, pos, aft, none⟩ :: l) k dsD σD δ M L := fun a w idx h1 h2 h3 h4 h5 => by
  cases idx with
  | nil => simp at h5
  | cons i r =>
    simp only [List.map_cons, List.cons.injEq] at h5
    have hg := stepGR_op (P := P) (b := (DCx P f C a0 k0 (.panicking ({ v, recovered := false } :: older))).b) (k := k) (cs := (DCx P f C a0 k0 (.panicking ({ v, recovered := false } :: older))).cs) (w := w) (rest := r) (a := a) h5.1 (wanted_none rfl _)
    have hr : ((⟨some d, .call ⟨.builtin .recover, #[], tys⟩, ty, pos, aft, none⟩ : Oper).semAt (DCx P f C a0 k0 (.panicking ({ v, recovered := false } :: older))).b.roundOf a.eval).run P w = .ok .recover w := by
      simp [DCx, Oper.semAt, execOp, resolve, invoke, builtin]
    have htr : tryRecover ((DCx P f C a0 k0 (.panicking ({ v, recovered := false } :: older))).b.atR a (.inRegion ops (i :: r) :: k)) (DCx P f C a0 k0 (.panicking ({ v, recovered := false } :: older))).cs = some (v, (DCx P f C a0 k0 (.panicking ({ v, recovered := true } :: older))).cs) := by
      rw [tryRecover_deferred rfl]
      simp [DCx, recoverD, below]
    have hstep : step P (lone ((DCx P f C a0 k0 (.panicking ({ v, recovered := false } :: older))).b.atR a (.inRegion ops (i :: r) :: k)) (DCx P f C a0 k0 (.panicking ({ v, recovered := false } :: older))).cs w) =
        .next (lone ((DCx P f C a0 k0 (.panicking ({ v, recovered := false } :: older))).b.atR (a.put (some d) v) (.inRegion ops r :: k)) (DCx P f C a0 k0 (.panicking ({ v, recovered := true } :: older))).cs w) := by
      refine step_lone_go ?_
      have hfin := finish_op (b := (DCx P f C a0 k0 (.panicking ({ v, recovered := false } :: older))).b) (a := a) (rest := r) (k := k) h5.1 v
      have hro : ((DCx P f C a0 k0 (.panicking ({ v, recovered := false } :: older))).b.atR a (.inRegion ops (i :: r) :: k)).roundOf = none := rfl
      rw [hg, ← hfin]
      simp [stepG.apply, hr, htr, hro]
    have hd' : d < a.tmps.size := by rw [h1]; exact Nat.blt_eq.mp hd
    obtain ⟨fr1, w1, hs1, fr2, w2, hs2, hphi⟩ := h _ w r (by rw [put_size]; exact h1) (by rw [put_defers]; exact h2) (h3.put hd' hn hu' _) h4 h5.2
    exact J.done ⟨fr2, w2, .head hstep (hs1.trans hs2), hphi⟩
end
end Go.Chi
