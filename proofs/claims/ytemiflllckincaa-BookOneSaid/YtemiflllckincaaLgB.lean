import Derived.Test.YtemiflllckincaaLgA
namespace Go.Chi

/-! ### the machine's frame goes on by itself -/

def J (P : Program) (cs : List Frame) (Φ : Frame → World → Prop) (fr : Frame) (w : World) : Prop :=
  ∃ fr' w', Steps P (lone fr cs w) (lone fr' cs w') ∧ Φ fr' w'

section
variable {P : Program} {cs : List Frame} {Φ : Frame → World → Prop} {fr fr1 : Frame} {w w1 : World}
theorem J.steps (h : Steps P (lone fr cs w) (lone fr1 cs w1)) (hj : J P cs Φ fr1 w1) : J P cs Φ fr w := by
  obtain ⟨fr', w', hs, hp⟩ := hj
  exact ⟨fr', w', h.trans hs, hp⟩
theorem J.step (h : step P (lone fr cs w) = .next (lone fr1 cs w1)) (hj : J P cs Φ fr1 w1) : J P cs Φ fr w := J.steps (.one h) hj
theorem J.done (h : Φ fr w) : J P cs Φ fr w := ⟨fr, w, .refl _ _, h⟩
end

/-- a call of a function returns -/
def Fn (P : Program) (f : FuncId) (args : Array Value) (w : World) (R : Value → World → Prop) : Prop :=
  ∀ cs, ∃ v w' fr, R v w' ∧ Steps P (lone (Frame.enter P f args .normal) cs w) (lone fr cs w') ∧ fr.fn = f ∧ fr.leaving P w' (.returned v)

theorem Fn.calls {P : Program} {f : FuncId} {args : Array Value} {w : World} {R : Value → World → Prop} (h : Fn P f args w R) :
    Calls P f args w (fun e w' => ∃ v, e = .returned v ∧ R v w') :=
  fun cs => let ⟨v, w', fr, r, s, e, l⟩ := h cs; ⟨.returned v, w', fr, ⟨v, rfl, r⟩, s, e, l⟩

theorem Fn.mono {P : Program} {f : FuncId} {args : Array Value} {w : World} {R R' : Value → World → Prop} (h : Fn P f args w R) (hr : ∀ v w', R v w' → R' v w') : Fn P f args w R' :=
  fun cs => let ⟨v, w', fr, r, x⟩ := h cs; ⟨v, w', fr, hr _ _ r, x⟩

/-- a round of a range over a function returns -/
def Rd (P : Program) (l : Nat) (f : FuncId) (tmps : Array Value) (assign body : Code) (w : World) (R : Value → World → Prop) : Prop :=
  ∀ (c : Frame) (cs : List Frame), ∃ v w', R v w' ∧ Steps P (lone (Frame.round l f tmps assign body .normal) (c :: cs) w) (lone (c.finish v) cs w')

theorem Rd.mono {P : Program} {l : Nat} {f : FuncId} {tmps : Array Value} {assign body : Code} {w : World} {R R' : Value → World → Prop} (h : Rd P l f tmps assign body w R) (hr : ∀ v w', R v w' → R' v w') : Rd P l f tmps assign body w R' :=
  fun c cs => let ⟨v, w', r, x⟩ := h c cs; ⟨v, w', hr _ _ r, x⟩

/-- what a run of an operation comes to -/
def OpRes (P : Program) (K : Value → World → Prop) : Result Next → Prop
  | .ok (.value v) w' => K v w'
  | .ok .skip w' => K undef w'
  | .ok (.enter f args) w' => Fn P f args w' K
  | .ok (.round l f tmps assign body) w' => Rd P l f tmps assign body w' K
  | _ => False

/-- an operation is carried out: its value is put, the world turns -/
def OpWp (P : Program) (ro : Option Nat) (o : Oper) (a : Act) (w : World) (K : Value → World → Prop) : Prop :=
  OpRes P K ((o.semAt ro a.eval).run P w)

section
variable {P : Program} {ro : Option Nat} {o : Oper} {a : Act} {w w' : World} {v : Value} {K : Value → World → Prop}

theorem OpRes.mono {K' : Value → World → Prop} (hk : ∀ v w', K v w' → K' v w') : ∀ {r : Result Next}, OpRes P K r → OpRes P K' r
  | .ok (.value _) _, h => hk _ _ h
  | .ok .skip _, h => hk _ _ h
  | .ok (.enter _ _) _, h => Fn.mono h hk
  | .ok (.round _ _ _ _ _) _, h => Rd.mono h hk
  | .ok (.defer _) _, h => h.elim
  | .ok .recover _, h => h.elim
  | .ok (.spawn _) _, h => h.elim
  | .ok (.comm _ _ _) _, h => h.elim
  | .ok .numGoroutine _, h => h.elim
  | .ok .collect _, h => h.elim
  | .ok (.watch _) _, h => h.elim
  | .ok (.newcoro _ _) _, h => h.elim
  | .ok (.coroswitch _ _) _, h => h.elim
  | .ok (.sleep _) _, h => h.elim
  | .ok (.timer _) _, h => h.elim
  | .ok (.alone _ _) _, h => h.elim
  | .ok (.callThen _ _ _ _) _, h => h.elim
  | .ok (.row _ _) _, h => h.elim
  | .ok (.stack _ _) _, h => h.elim
  | .halt _ _, h => h.elim

theorem OpWp.mono {K' : Value → World → Prop} (h : OpWp P ro o a w K) (hk : ∀ v w', K v w' → K' v w') : OpWp P ro o a w K' := OpRes.mono hk h

theorem finish_op {b : Frame} {ops : Array Oper} {i : Nat} {rest : List Nat} {k : List Item} (ho : ops[i]? = some o) (v : Value) :
    (b.atR a (.inRegion ops (i :: rest) :: k)).finish v = b.atR (a.put o.dst v) (.inRegion ops rest :: k) := by
  rw [Frame.finish_atR, ho]; rfl

theorem OpWp.steps (h : OpWp P ro o a w K) (b : Frame) (ops : Array Oper) (i : Nat) (rest : List Nat) (k : List Item) (cs : List Frame) (hb : b.roundOf = ro) (ho : ops[i]? = some o) (hw : Region.wanted o (yielded ops a.tmps) = true) :
    ∃ v w', K v w' ∧ Steps P (lone (b.atR a (.inRegion ops (i :: rest) :: k)) cs w) (lone (b.atR (a.put o.dst v) (.inRegion ops rest :: k)) cs w') := by
  have hg := stepGR_op (P := P) (b := b) (k := k) (cs := cs) (w := w) (rest := rest) ho hw
  rw [hb] at hg
  unfold OpWp at h
  cases hr : (o.semAt ro a.eval).run P w with
  | halt x w' => rw [hr] at h; exact h.elim
  | ok nx w1 =>
    rw [hr] at h
    cases nx with
    | value v =>
      refine ⟨v, w1, h, .one (step_lone_go ?_)⟩
      rw [hg, ← finish_op ho]; simp [stepG.apply, hr]
    | skip =>
      refine ⟨undef, w1, h, .one (step_lone_go ?_)⟩
      rw [hg, ← finish_op ho]; simp [stepG.apply, hr]
    | enter f args =>
      obtain ⟨v, w'', fr, hR, hs, _, hl⟩ := (show Fn P f args w1 K from h) (b.atR a (.inRegion ops (i :: rest) :: k) :: cs)
      have henter : step P (lone (b.atR a (.inRegion ops (i :: rest) :: k)) cs w) =
          .next (lone (Frame.enter P f args .normal) (b.atR a (.inRegion ops (i :: rest) :: k) :: cs) w1) :=
        step_lone_go (by rw [hg]; simp [stepG.apply, hr, Frame.atR])
      refine ⟨v, w'', hR, .head henter (hs.trans (.one ?_))⟩
      rw [← finish_op ho]; exact step_leave_returned hl
    | round l f tmps assign body =>
      obtain ⟨v, w'', hR, hs⟩ := (show Rd P l f tmps assign body w1 K from h) (b.atR a (.inRegion ops (i :: rest) :: k)) cs
      have henter : step P (lone (b.atR a (.inRegion ops (i :: rest) :: k)) cs w) =
          .next (lone (Frame.round l f tmps assign body .normal) (b.atR a (.inRegion ops (i :: rest) :: k) :: cs) w1) :=
        step_lone_go (by rw [hg]; simp [stepG.apply, hr, Frame.atR])
      refine ⟨v, w'', hR, .head henter ?_⟩
      rw [← finish_op ho]; exact hs
    | _ => exact h.elim

theorem opWp_value (h : (o.semAt ro a.eval).run P w = .ok (.value v) w') (hk : K v w') : OpWp P ro o a w K := by
  unfold OpWp; rw [h]; exact hk
theorem opWp_skip (h : (o.semAt ro a.eval).run P w = .ok .skip w') (hk : K undef w') : OpWp P ro o a w K := by
  unfold OpWp; rw [h]; exact hk
theorem opWp_enter {f : FuncId} {args : Array Value} (h : (o.semAt ro a.eval).run P w = .ok (.enter f args) w') (hk : Fn P f args w' K) : OpWp P ro o a w K := by
  unfold OpWp; rw [h]; exact hk
theorem opWp_round {l : Nat} {f : FuncId} {tmps : Array Value} {assign body : Code} (h : (o.semAt ro a.eval).run P w = .ok (.round l f tmps assign body) w') (hk : Rd P l f tmps assign body w' K) : OpWp P ro o a w K := by
  unfold OpWp; rw [h]; exact hk
end

/-! ### what is known of the slots -/

abbrev Env := List (Nat × Value)
abbrev Path := List (Nat × Bool)
abbrev Den := List (Nat × Path × Value)

def lks : Env → Nat → Option Value
  | [], _ => none
  | (t, v) :: σ, k => match Nat.beq t k with | true => some v | false => lks σ k
def lkd : Den → Nat → Option (Path × Value)
  | [], _ => none
  | (t, p, v) :: σ, k => match Nat.beq t k with | true => some (p, v) | false => lkd σ k
def inPath : Path → Nat → Bool → Bool
  | [], _, _ => false
  | (s, true) :: p, k, true => match Nat.beq s k with | true => true | false => inPath p k true
  | (s, false) :: p, k, false => match Nat.beq s k with | true => true | false => inPath p k false
  | _ :: p, k, b => inPath p k b
def knows (σ : Env) (s : Nat) (b : Bool) : Bool :=
  match lks σ s, b with
  | some (.bool true), true => true
  | some (.bool false), false => true
  | _, _ => false
def okP (σ : Env) (cur : Path) : Path → Bool
  | [] => true
  | (s, b) :: p => match inPath cur s b with | true => okP σ cur p | false => match knows σ s b with | true => okP σ cur p | false => false
def lka (σ : Env) (δ : Den) (cur : Path) (t : Nat) : Option Value :=
  match lkd δ t with
  | some (p, v) => match okP σ cur p with | true => some v | false => none
  | none => lks σ t
def ev (σ : Env) (δ : Den) (cur : Path) : Operand → Option Value
  | .tmp t => lka σ δ cur t
  | .const v => some v
  | .global g => some (.pointer (some ⟨g, 0, none⟩))
  | .func f => some (.func (.func f) #[] #[])
def evs (σ : Env) (δ : Den) (cur : Path) : List Operand → Option (List Value)
  | [] => some []
  | x :: l => match ev σ δ cur x with
    | some v => match evs σ δ cur l with
      | some vs => some (v :: vs)
      | none => none
    | none => none
/-- a slot is named by no path -/
def unNamed : Den → Nat → Bool
  | [], _ => true
  | (_, p, _) :: δ, d => match p.any (fun x => Nat.beq x.1 d) with | true => false | false => unNamed δ d

def holds (a : Act) (p : Path) : Prop := ∀ x ∈ p, a.tmps[x.1]? = some (.bool x.2)

structure Sees (σ : Env) (δ : Den) (a : Act) : Prop where
  s : ∀ t v, lks σ t = some v → a.tmps[t]? = some v
  d : ∀ t p v, lkd δ t = some (p, v) → (holds a p → a.tmps[t]? = some v) ∧ (¬ holds a p → a.tmps[t]? = some undef)

theorem inPath_mem : ∀ {p : Path} {s : Nat} {b : Bool}, inPath p s b = true → (s, b) ∈ p
  | [], _, _, h => by simp [inPath] at h
  | (k, c) :: p, s, b, h => by
    cases c <;> cases b <;> simp only [inPath] at h
    all_goals first
      | exact List.mem_cons_of_mem _ (inPath_mem h)
      | (split at h
         · rename_i e; have := Nat.eq_of_beq_eq_true e; subst this; exact List.mem_cons_self
         · exact List.mem_cons_of_mem _ (inPath_mem h))

theorem knows_sound {σ : Env} {δ : Den} {a : Act} (hs : Sees σ δ a) {s : Nat} {b : Bool} (h : knows σ s b = true) : a.tmps[s]? = some (.bool b) := by
  unfold knows at h
  split at h
  · rename_i e; exact hs.s _ _ e
  · rename_i e; exact hs.s _ _ e
  · cases h

theorem okP_sound {σ : Env} {δ : Den} {a : Act} (hs : Sees σ δ a) {cur : Path} (hc : holds a cur) : ∀ {p : Path}, okP σ cur p = true → holds a p
  | [], _ => fun x hx => by cases hx
  | (s, b) :: p, h => by
    simp only [okP] at h
    split at h
    · rename_i e
      intro x hx
      rcases List.mem_cons.1 hx with rfl | hx
      · exact hc _ (inPath_mem e)
      · exact okP_sound hs hc h x hx
    · split at h
      · rename_i e
        intro x hx
        rcases List.mem_cons.1 hx with rfl | hx
        · exact knows_sound hs e
        · exact okP_sound hs hc h x hx
      · cases h

theorem lka_sound {σ : Env} {δ : Den} {a : Act} (hs : Sees σ δ a) {cur : Path} (hc : holds a cur) {t : Nat} {v : Value} (h : lka σ δ cur t = some v) : a.tmps[t]? = some v := by
  unfold lka at h
  split at h
  · rename_i p v' e
    split at h
    · rename_i ok
      cases h
      exact (hs.d _ _ _ e).1 (okP_sound hs hc ok)
    · cases h
  · exact hs.s _ _ h

theorem ev_sound {σ : Env} {δ : Den} {a : Act} (hs : Sees σ δ a) {cur : Path} (hc : holds a cur) {x : Operand} {v : Value} (h : ev σ δ cur x = some v) : a.eval x = v := by
  cases x with
  | tmp t =>
    have := lka_sound hs hc h
    simp [Act.eval, Array.getD_eq_getD_getElem?, this]
  | const v' => simp [ev] at h; simpa [Act.eval] using h
  | global g => simp [ev] at h; simpa [Act.eval] using h
  | func f => simp [ev] at h; simpa [Act.eval] using h

theorem evs_sound {σ : Env} {δ : Den} {a : Act} (hs : Sees σ δ a) {cur : Path} (hc : holds a cur) : ∀ {l : List Operand} {vs : List Value}, evs σ δ cur l = some vs → l.map a.eval = vs
  | [], vs, h => by simp [evs] at h; simpa using h
  | x :: l, vs, h => by
    simp only [evs] at h
    split at h
    · rename_i v e
      split at h
      · rename_i vs' e'
        cases h
        simp [ev_sound hs hc e, evs_sound hs hc e']
      · cases h
    · cases h

/-- what a path's slots say -/
def hyp (σ : Env) (δ : Den) (s : Nat) (b : Bool) : Prop :=
  match lkd δ s with
  | some (_, .bool c) => c = b
  | some _ => True
  | none => match lks σ s with
    | some (.bool c) => c = b
    | _ => True
def Hy (σ : Env) (δ : Den) : Path → Prop
  | [] => True
  | (s, b) :: p => hyp σ δ s b ∧ Hy σ δ p

theorem hyp_of {σ : Env} {δ : Den} {a : Act} (hs : Sees σ δ a) {s : Nat} {b : Bool} (h : a.tmps[s]? = some (.bool b)) : hyp σ δ s b := by
  unfold hyp
  split
  · rename_i p c e
    have := hs.d _ _ _ e
    by_cases hp : holds a p
    · have := this.1 hp; rw [h] at this; injection this with this; injection this with this; exact this.symm
    · have := this.2 hp; rw [h] at this; injection this with this; simp [undef] at this
  · trivial
  · split
    · rename_i c e
      have := hs.s _ _ e; rw [h] at this; injection this with this; injection this with this; exact this.symm
    · trivial

theorem Hy_of {σ : Env} {δ : Den} {a : Act} (hs : Sees σ δ a) : ∀ {cur : Path}, holds a cur → Hy σ δ cur
  | [], _ => trivial
  | (s, b) :: p, h => ⟨hyp_of hs (h (s, b) (by simp)), Hy_of hs fun x hx => h x (List.mem_cons_of_mem _ hx)⟩

theorem Sees.nil {σ : Env} {δ : Den} {a : Act} (h : Sees σ δ a) : Sees σ [] a := ⟨h.s, fun t p v e => by simp [lkd] at e⟩

theorem lks_cons {t : Nat} {v : Value} {σ : Env} {k : Nat} : lks ((t, v) :: σ) k = if t = k then some v else lks σ k := by
  show (match Nat.beq t k with | true => some v | false => lks σ k) = _
  cases h : Nat.beq t k
  · rw [if_neg (Nat.ne_of_beq_eq_false h)]
  · rw [if_pos (Nat.eq_of_beq_eq_true h)]
theorem lkd_cons {t : Nat} {p : Path} {v : Value} {σ : Den} {k : Nat} : lkd ((t, p, v) :: σ) k = if t = k then some (p, v) else lkd σ k := by
  show (match Nat.beq t k with | true => some (p, v) | false => lkd σ k) = _
  cases h : Nat.beq t k
  · rw [if_neg (Nat.ne_of_beq_eq_false h)]
  · rw [if_pos (Nat.eq_of_beq_eq_true h)]

theorem unNamed_sound : ∀ {δ : Den} {d : Nat}, unNamed δ d = true → ∀ t p v, lkd δ t = some (p, v) → ∀ x ∈ p, x.1 ≠ d
  | [], _, _, t, p, v, h => by simp [lkd] at h
  | (t', p', v') :: δ, d, hu, t, p, v, h => by
    simp only [unNamed] at hu
    split at hu
    · cases hu
    · rename_i e
      rw [lkd_cons] at h
      split at h
      · cases h
        intro x hx hd
        have : p'.any (fun x => Nat.beq x.1 d) = true := List.any_eq_true.2 ⟨x, hx, by rw [hd]; exact Nat.beq_refl d⟩
        rw [e] at this; cases this
      · exact unNamed_sound hu t p v h

/-- a slot is put: unconditionally -/
theorem Sees.put {σ : Env} {δ : Den} {a : Act} (h : Sees σ δ a) {d : Nat} (hd : d < a.tmps.size) (hn : lkd δ d = none) (hu : unNamed δ d = true) (v : Value) :
    Sees ((d, v) :: σ) δ (a.put (some d) v) := by
  have hget : ∀ t, (a.put (some d) v).tmps[t]? = if t = d then some v else a.tmps[t]? := fun t => by
    show (a.tmps.setIfInBounds d v)[t]? = _
    by_cases e : t = d
    · subst e; simp [hd]
    · rw [if_neg e, Array.getElem?_setIfInBounds_ne (fun x => e x.symm)]
  have hh : ∀ t p v', lkd δ t = some (p, v') → (holds (a.put (some d) v) p ↔ holds a p) := fun t p v' e => by
    have hx := unNamed_sound hu t p v' e
    constructor
    · intro hp x hxp; have := hp x hxp; rwa [hget, if_neg (hx x hxp)] at this
    · intro hp x hxp; rw [hget, if_neg (hx x hxp)]; exact hp x hxp
  constructor
  · intro t v' e
    rw [lks_cons] at e
    rw [hget]
    split at e
    · rename_i he; cases e; rw [if_pos he.symm]
    · rename_i he; rw [if_neg (fun x => he x.symm)]; exact h.s _ _ e
  · intro t p v' e
    have hne : t ≠ d := fun x => by subst x; rw [hn] at e; cases e
    rw [hh t p v' e, hget, if_neg hne]
    exact h.d _ _ _ e

/-- a slot is put: under a path -/
theorem Sees.putG {σ : Env} {δ : Den} {a : Act} (h : Sees σ δ a) {d : Nat} (hd : d < a.tmps.size) (hn : lkd δ d = none) (hs : lks σ d = none) (hu : unNamed δ d = true) {p : Path} (hp : ∀ x ∈ p, x.1 ≠ d) {v v' : Value}
    (hv : (holds a p → v' = v) ∧ (¬ holds a p → v' = undef)) :
    Sees σ ((d, p, v) :: δ) (a.put (some d) v') := by
  have hget : ∀ t, (a.put (some d) v').tmps[t]? = if t = d then some v' else a.tmps[t]? := fun t => by
    show (a.tmps.setIfInBounds d v')[t]? = _
    by_cases e : t = d
    · subst e; simp [hd]
    · rw [if_neg e, Array.getElem?_setIfInBounds_ne (fun x => e x.symm)]
  have hh : ∀ q : Path, (∀ x ∈ q, x.1 ≠ d) → (holds (a.put (some d) v') q ↔ holds a q) := fun q hx => by
    constructor
    · intro hp x hxp; have := hp x hxp; rwa [hget, if_neg (hx x hxp)] at this
    · intro hp x hxp; rw [hget, if_neg (hx x hxp)]; exact hp x hxp
  constructor
  · intro t u e
    have hne : t ≠ d := fun x => by subst x; rw [hs] at e; cases e
    rw [hget, if_neg hne]; exact h.s _ _ e
  · intro t q u e
    rw [lkd_cons] at e
    split at e
    · rename_i he
      cases e
      rw [hh _ hp, hget, if_pos he.symm]
      exact ⟨fun x => by rw [hv.1 x], fun x => by rw [hv.2 x]⟩
    · rename_i he
      rw [hh q (unNamed_sound hu t q u e), hget, if_neg (fun x => he x.symm)]
      exact h.d _ _ _ e

/-- no slot is put -/
theorem Sees.put_none {σ : Env} {δ : Den} {a : Act} (h : Sees σ δ a) (v : Value) : Sees σ δ (a.put none v) := h

theorem put_size (a : Act) (d : Option Tmp) (v : Value) : (a.put d v).tmps.size = a.tmps.size := by cases d <;> simp [Act.put]
theorem put_defers (a : Act) (d : Option Tmp) (v : Value) : (a.put d v).defers = a.defers := by cases d <;> simp [Act.put]

end Go.Chi
