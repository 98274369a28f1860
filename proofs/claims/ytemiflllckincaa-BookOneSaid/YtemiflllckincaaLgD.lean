import Derived.Test.YtemiflllckincaaLgC
import Derived.Orders
namespace Go.Chi

/-! ### a region that draws its order: whichever order is drawn, it comes to what one order comes to -/

def memN : List Nat → Nat → Bool
  | [], _ => false
  | x :: l, i => match Nat.beq x i with | true => true | false => memN l i
theorem memN_iff : ∀ {l : List Nat} {i : Nat}, memN l i = true ↔ i ∈ l
  | [], i => by simp [memN]
  | x :: l, i => by
    simp only [memN]
    cases h : Nat.beq x i
    · have hne := Nat.ne_of_beq_eq_false h
      simp only [memN_iff, List.mem_cons]
      exact ⟨fun x => .inr x, fun x => x.resolve_left (fun e => hne e.symm)⟩
    · have := Nat.eq_of_beq_eq_true h
      simp [this]
theorem memN_false {l : List Nat} {i : Nat} (h : memN l i = false) : i ∉ l := fun hm => by rw [memN_iff.2 hm] at h; cases h

def preds (o : Oper) : List Nat := (o.after.toList.filter (Region.binds .any)).map (·.on)
def predsAt (ops : Array Oper) (i : Nat) : List Nat := match ops[i]? with | some o => preds o | none => []
def looks (ops : Array Oper) (i : Nat) : List Nat := match ops[i]? with | some o => o.looksAt ops | none => []
def plainOp : Op → Bool
  | .select _ _ => false
  | .defer _ => false
  | .go _ => false
  | _ => true
def plainAt (ops : Array Oper) (i : Nat) : Bool := match ops[i]? with | some o => plainOp o.op | none => false

/-- what surely comes before e -/
def befs (ops : Array Oper) (e : Nat) : List Nat :=
  (List.range e).reverse.foldl (fun acc i => if acc.any (fun j => memN (predsAt ops j) i) then i :: acc else acc) [e]

def slotIs (ops : Array Oper) (q d : Nat) : Bool := match slotOf ops q with | some x => Nat.beq x d | none => false

/-- slot d, which i writes, is no matter of q's -/
def freeOf (ops : Array Oper) (d q : Nat) : Bool := !memN (looks ops q) d && !slotIs ops q d
/-- where i looks at q's slot, it comes behind q -/
def dataOk (ops : Array Oper) (i q : Nat) : Bool := match slotOf ops q with | some d => !memN (looks ops i) d || memN (predsAt ops i) q | none => true

def chkQ (ops : Array Oper) (D : List Nat) (i : Nat) : Bool :=
  match slotOf ops i with
  | none => false
  | some d => plainAt ops i && !memN D i && (predsAt ops i).all (memN D) && !memN (looks ops i) d && D.all (fun q => freeOf ops d q && dataOk ops i q)

def chkE (ops : Array Oper) (D : List Nat) (e : Nat) : Bool :=
  Nat.blt e ops.size && plainAt ops e && !memN D e && (predsAt ops e).all (memN D) &&
  (List.range ops.size).all (fun i => memN D i || Nat.beq i e || !(predsAt ops i).all (memN D)) &&
  (let bs := befs ops e
   D.all (fun q => memN bs q || (dataOk ops e q && !(match slotOf ops q with | some d => memN (looks ops e) d | none => true) && (match slotOf ops e with | some d => freeOf ops d q | none => true))))

def chkE1 (ops : Array Oper) (D : List Nat) (e : Nat) : Bool :=
  Nat.blt e ops.size && plainAt ops e && !memN D e && (predsAt ops e).all (memN D) &&
  (let bs := befs ops e
   D.all (fun q => memN bs q || (dataOk ops e q && !(match slotOf ops q with | some d => memN (looks ops e) d | none => true) && (match slotOf ops e with | some d => freeOf ops d q | none => true))))
def chkC (ops : Array Oper) (D Es : List Nat) : Bool := (List.range ops.size).all (fun i => memN D i || memN Es i || !(predsAt ops i).all (memN D))

def acyc (ops : Array Oper) : Bool := (List.range ops.size).all fun i => (predsAt ops i).all (fun p => Nat.blt p i)

def Lst (listed : Array Bool) (i : Nat) : Prop := listed.getD i false = true

/-- an operation of the plan that is not yet carried out: it yields what the plan says -/
def Pend (P : Program) (ro : Option Nat) (ops : Array Oper) (q : Nat) (â : Act) (M : Mem) (L : HL) : Prop :=
  ∃ o d, ops[q]? = some o ∧ o.dst = some d ∧ plainOp o.op = true ∧
    (Region.wanted o (yielded ops â.tmps) = true → ∃ v, â.tmps[d]? = some v ∧ ∀ w, Hp M L w → OpWp P ro o â w (fun u w' => u = v ∧ Hp M L w')) ∧
    (Region.wanted o (yielded ops â.tmps) = false → â.tmps[d]? = some undef)

structure PRst (P : Program) (C : Cx) (n : Nat) (ops : Array Oper) (ds : List Deferred) (D X : List Nat) (σ : Env) (δ : Den) (M : Mem) (L : HL) (a â : Act) (w : World) (listed : Array Bool) (fuel : Nat) : Prop where
  hsz : listed.size = ops.size
  cnt : ((List.range ops.size).filter (fun i => !listed.getD i true)).length ≤ fuel
  an : a.tmps.size = n
  hn : â.tmps.size = n
  ad : a.defers = ds
  hd : â.defers = ds
  sees : Sees σ δ â
  hp : Hp M L w
  down : ∀ i, Lst listed i → ∀ p ∈ predsAt ops i, Lst listed p
  sub : ∀ i, Lst listed i → i ∈ D
  ex : ∀ i ∈ X, Lst listed i
  pend : ∀ q ∈ D, ¬ Lst listed q → Pend P C.b.roundOf ops q â M L
  agree : ∀ t, (∀ q ∈ D, ¬ Lst listed q → slotOf ops q ≠ some t) → a.tmps[t]? = â.tmps[t]?
  wf : ∀ i ∈ D, ¬ Lst listed i → ∀ q ∈ D, ¬ Lst listed q → ∀ d, slotOf ops q = some d → d ∈ looks ops i → q ∈ predsAt ops i
  uniq : ∀ i ∈ D, ¬ Lst listed i → ∀ q ∈ D, ¬ Lst listed q → i ≠ q → slotOf ops i ≠ slotOf ops q

def PR (P : Program) (C : Cx) (n : Nat) (ops : Array Oper) (k : List Item) (ds : List Deferred) (D X : List Nat) (σ : Env) (δ : Den) (M : Mem) (L : HL) : Prop :=
  ∀ a â w listed fuel t, PRst P C n ops ds D X σ δ M L a â w listed fuel → J P C.cs C.Φ (C.b.atR a (.inRegion ops (Region.linearise.go .any ops fuel t listed []) :: k)) w

section
variable {P : Program} {C : Cx} {n : Nat} {k : List Item} {ds : List Deferred} {σ : Env} {δ : Den} {M : Mem} {L : HL} {ops : Array Oper} {D X : List Nat}

theorem lst_set {listed : Array Bool} {i j : Nat} (hi : i < listed.size) : Lst (listed.setIfInBounds i true) j ↔ (j = i ∨ Lst listed j) := by
  unfold Lst
  simp only [Array.getD_eq_getD_getElem?]
  by_cases e : i = j
  · subst e; simp [hi]
  · rw [Array.getElem?_setIfInBounds_ne e]
    exact ⟨.inr, fun h => h.resolve_left (fun x => e x.symm)⟩

theorem not_lst {listed : Array Bool} {i : Nat} (hi : i < listed.size) : listed.getD i true = false ↔ ¬ Lst listed i := by
  unfold Lst
  simp only [Array.getD_eq_getD_getElem?]
  rw [Array.getElem?_eq_getElem hi]
  simp

theorem ready_iff {listed : Array Bool} (hsz : listed.size = ops.size) {i : Nat} : i ∈ Region.ready .any ops listed ↔ i < ops.size ∧ ¬ Lst listed i ∧ ∀ p ∈ predsAt ops i, Lst listed p := by
  unfold Region.ready
  simp only [List.mem_filter, List.mem_range, Bool.and_eq_true, Bool.not_eq_true']
  constructor
  · rintro ⟨h1, h2, h3⟩
    refine ⟨h1, (not_lst (by omega)).1 h2, fun p hp => ?_⟩
    unfold predsAt at hp
    rw [Array.getElem?_eq_getElem h1] at h3 hp
    simp only [Option.map_some, Option.getD_some, preds] at h3 hp
    obtain ⟨e, he, rfl⟩ := List.mem_map.1 hp
    obtain ⟨he1, he2⟩ := List.mem_filter.1 he
    have := (Array.all_eq_true'.1 h3) e (by simpa using he1)
    simp only [he2, Bool.not_true, Bool.false_or] at this
    exact this
  · rintro ⟨h1, h2, h3⟩
    refine ⟨h1, (not_lst (by omega)).2 h2, ?_⟩
    unfold predsAt at h3
    rw [Array.getElem?_eq_getElem h1] at h3 ⊢
    simp only [Option.map_some, Option.getD_some, preds] at h3 ⊢
    refine Array.all_eq_true'.2 fun e he => ?_
    cases hb : Region.binds .any e with
    | false => rfl
    | true => simp only [Bool.not_true, Bool.false_or]; exact h3 _ (List.mem_map.2 ⟨e, List.mem_filter.2 ⟨by simpa using he, hb⟩, rfl⟩)

/-- where nothing is ready all is done -/
theorem all_lst (hac : acyc ops = true) {listed : Array Bool} (hsz : listed.size = ops.size) (hr : Region.ready .any ops listed = []) : ∀ i, i < ops.size → Lst listed i := by
  intro i
  induction i using Nat.strongRecOn with
  | _ i ih =>
    intro hi
    apply Classical.byContradiction
    intro hn
    have : i ∈ Region.ready .any ops listed := by
      rw [ready_iff hsz]
      refine ⟨hi, hn, fun p hp => ?_⟩
      have h1 := List.all_eq_true.1 hac i (List.mem_range.2 hi)
      have h2 := Nat.blt_eq.mp (List.all_eq_true.1 h1 p hp)
      exact ih p h2 (by omega)
    rw [hr] at this; cases this

theorem cnt_set {listed : Array Bool} {fuel i : Nat} (hsz : listed.size = ops.size) (hi : i < ops.size) (hn : ¬ Lst listed i)
    (h : ((List.range ops.size).filter (fun i => !listed.getD i true)).length ≤ fuel + 1) :
    ((List.range ops.size).filter (fun j => !(listed.setIfInBounds i true).getD j true)).length ≤ fuel := by
  have hlt : ((List.range ops.size).filter (fun j => !(listed.setIfInBounds i true).getD j true)).length < ((List.range ops.size).filter (fun i => !listed.getD i true)).length := by
    have hsub : (List.range ops.size).filter (fun j => !(listed.setIfInBounds i true).getD j true) = ((List.range ops.size).filter (fun j => !listed.getD j true)).filter (fun j => decide (j ≠ i)) := by
      rw [List.filter_filter]
      apply List.filter_congr
      intro j hj
      have hj' : j < ops.size := List.mem_range.1 hj
      have a1 := not_lst (listed := listed) (i := j) (by omega)
      have a2 := not_lst (listed := listed.setIfInBounds i true) (i := j) (by simp; omega)
      rw [lst_set (by omega)] at a2
      by_cases e : j = i
      · subst e
        simp only [ne_eq, not_true_eq_false, decide_false, Bool.false_and]
        have : (listed.setIfInBounds j true).getD j true = true := by
          cases hx : (listed.setIfInBounds j true).getD j true with
          | true => rfl
          | false => exact absurd (.inl rfl) (a2.1 hx)
        simp [this]
      · simp only [ne_eq, e, not_false_eq_true, decide_true, Bool.true_and]
        congr 1
        cases hx : listed.getD j true with
        | true =>
          cases hy : (listed.setIfInBounds i true).getD j true with
          | true => rfl
          | false =>
            have := a2.1 hy
            have h3 : ¬ Lst listed j := fun x => this (.inr x)
            rw [a1.2 h3] at hx; cases hx
        | false =>
          have h3 := a1.1 hx
          exact a2.2 (fun x => x.elim e h3)
    rw [hsub]
    have hm : i ∈ (List.range ops.size).filter (fun j => !listed.getD j true) := List.mem_filter.2 ⟨List.mem_range.2 hi, by rw [(not_lst (by omega)).2 hn]; rfl⟩
    refine Nat.lt_of_le_of_ne (List.length_filter_le _ _) (fun e => ?_)
    have := List.length_filter_eq_length_iff.1 e i hm
    simp at this
  omega

theorem eval_agree {o : Oper} {a a' : Act} (h : ∀ t ∈ o.looksAt ops, a.tmps[t]? = a'.tmps[t]?) : ∀ x ∈ o.op.operands, a.eval x = a'.eval x := by
  intro x hx
  cases x with
  | tmp t =>
    have ht : t ∈ o.looksAt ops := List.mem_append_left _ (List.mem_filterMap.2 ⟨.tmp t, by simpa using hx, rfl⟩)
    simp only [Act.eval, Array.getD_eq_getD_getElem?, h t ht]
  | const v => rfl
  | global g => rfl
  | func f => rfl

theorem sem_agree {ro : Option Nat} {o : Oper} (hp : plainOp o.op = true) {a a' : Act} (h : ∀ t ∈ o.looksAt ops, a.tmps[t]? = a'.tmps[t]?) : o.semAt ro a.eval = o.semAt ro a'.eval := by
  have h1 : ∀ c, o.op ≠ .defer c := fun c e => by rw [e] at hp; cases hp
  have h2 : ∀ cs b, o.op ≠ .select cs b := fun cs b e => by rw [e] at hp; cases hp
  rw [Oper.semAt_eq _ _ _ h1, Oper.semAt_eq _ _ _ h1]
  exact execOp_congr o h2 (eval_agree h)

theorem wanted_agree {o : Oper} {a a' : Act} (h : ∀ t ∈ o.looksAt ops, a.tmps[t]? = a'.tmps[t]?) : Region.wanted o (yielded ops a.tmps) = Region.wanted o (yielded ops a'.tmps) := by
  unfold Region.wanted
  cases hg : o.guard with
  | none => rfl
  | some gw =>
    obtain ⟨g, want⟩ := gw
    have : yielded ops a.tmps g = yielded ops a'.tmps g := by
      unfold yielded
      cases ht : (ops[g]?).bind (·.dst) with
      | none => rfl
      | some t =>
        have : t ∈ o.looksAt ops := List.mem_append_right _ (by simp [hg, ht])
        simp only [Option.bind_some, h t this]
    simp only [this]

theorem Pend.congr {ro : Option Nat} {q : Nat} {â â' : Act} {d : Nat} (hd : slotOf ops q = some d) (h : ∀ t ∈ looks ops q, â.tmps[t]? = â'.tmps[t]?) (h' : â.tmps[d]? = â'.tmps[d]?) (hp : Pend P ro ops q â M L) : Pend P ro ops q â' M L := by
  obtain ⟨o, d', ho, hdst, hpl, h1, h2⟩ := hp
  have : d' = d := by unfold slotOf at hd; rw [ho] at hd; simp only [Option.bind_some] at hd; rw [hdst] at hd; injection hd
  subst this
  have hl : ∀ t ∈ o.looksAt ops, â.tmps[t]? = â'.tmps[t]? := fun t ht => h t (by unfold looks; rw [ho]; exact ht)
  rw [wanted_agree hl] at h1 h2
  refine ⟨o, d', ho, hdst, hpl, fun hw => ?_, fun hw => by rw [← h']; exact h2 hw⟩
  obtain ⟨v, hv, hq⟩ := h1 hw
  refine ⟨v, by rw [← h']; exact hv, fun w hw' => ?_⟩
  have := hq w hw'
  unfold OpWp at this ⊢
  rw [← sem_agree hpl hl]; exact this

theorem put_get {a : Act} {d : Nat} (hd : d < a.tmps.size) (v : Value) (t : Nat) : (a.put (some d) v).tmps[t]? = if t = d then some v else a.tmps[t]? := by
  show (a.tmps.setIfInBounds d v)[t]? = _
  by_cases e : t = d
  · subst e; simp [hd]
  · rw [if_neg e, Array.getElem?_setIfInBounds_ne (fun x => e x.symm)]

theorem slot_of {q d : Nat} {o : Oper} (ho : ops[q]? = some o) : slotOf ops q = o.dst := by unfold slotOf; rw [ho]; rfl

/-- an operation of the plan is carried out -/
theorem PRst.exec {a â : Act} {w : World} {listed : Array Bool} {fuel : Nat} (h : PRst P C n ops ds D X σ δ M L a â w listed (fuel + 1)) {i : Nat} (hr : i ∈ Region.ready .any ops listed) (hi : i ∈ D) (rest : List Nat) :
    ∃ a' w', Steps P (lone (C.b.atR a (.inRegion ops (i :: rest) :: k)) C.cs w) (lone (C.b.atR a' (.inRegion ops rest :: k)) C.cs w') ∧ PRst P C n ops ds D X σ δ M L a' â w' (listed.setIfInBounds i true) fuel := by
  obtain ⟨hlt, hnl, hpr⟩ := (ready_iff h.hsz).1 hr
  have hlt' : i < listed.size := by rw [h.hsz]; exact hlt
  obtain ⟨o, d, ho, hdst, hpl, h1, h2⟩ := h.pend i hi hnl
  have hsl : slotOf ops i = some d := by rw [slot_of (d := d) ho]; exact hdst
  have hag : ∀ t ∈ o.looksAt ops, a.tmps[t]? = â.tmps[t]? := fun t ht => by
    refine h.agree t fun q hq hqn hqs => ?_
    have := h.wf i hi hnl q hq hqn t hqs (by unfold looks; rw [ho]; exact ht)
    exact hqn (hpr q this)
  -- what is left after the step, whatever value u was put
  have fin : ∀ u w', â.tmps[d]? = some u → Hp M L w' → PRst P C n ops ds D X σ δ M L (a.put (some d) u) â w' (listed.setIfInBounds i true) fuel := fun u w' hu hp' => by
    have hd' : d < a.tmps.size := by
      rw [h.an, ← h.hn]; exact (Array.getElem?_eq_some_iff.1 hu).1
    have hq : ∀ q, ¬ Lst (listed.setIfInBounds i true) q → q ≠ i ∧ ¬ Lst listed q := fun q hq => ⟨fun e => hq ((lst_set hlt').2 (.inl e)), fun e => hq ((lst_set hlt').2 (.inr e))⟩
    exact {
      hsz := by simpa using h.hsz
      cnt := cnt_set h.hsz hlt hnl h.cnt
      an := by rw [put_size]; exact h.an
      hn := h.hn
      ad := by rw [put_defers]; exact h.ad
      hd := h.hd
      sees := h.sees
      hp := hp'
      down := fun j hj p hp => by
        rw [lst_set hlt'] at hj ⊢
        rcases hj with rfl | hj
        · exact .inr (hpr p hp)
        · exact .inr (h.down j hj p hp)
      sub := fun j hj => by
        rw [lst_set hlt'] at hj
        rcases hj with rfl | hj
        · exact hi
        · exact h.sub j hj
      ex := fun j hj => (lst_set hlt').2 (.inr (h.ex j hj))
      pend := fun q hqD hqn => h.pend q hqD (hq q hqn).2
      agree := fun t ht => by
        rw [put_get hd']
        by_cases e : t = d
        · rw [if_pos e, e]; exact hu.symm
        · rw [if_neg e]
          refine h.agree t fun q hqD hqn hqs => ?_
          by_cases hqi : q = i
          · subst hqi; rw [hsl] at hqs; injection hqs with hqs; exact e hqs.symm
          · exact ht q hqD (fun x => by rw [lst_set hlt'] at x; exact x.elim hqi hqn) hqs
      wf := fun j hj hjn q hqD hqn => h.wf j hj (hq j hjn).2 q hqD (hq q hqn).2
      uniq := fun j hj hjn q hqD hqn => h.uniq j hj (hq j hjn).2 q hqD (hq q hqn).2 }
  cases hw : Region.wanted o (yielded ops a.tmps) with
  | true =>
    rw [wanted_agree hag] at hw
    obtain ⟨v, hv, hq⟩ := h1 hw
    have hop : OpWp P C.b.roundOf o a w (fun u w' => u = v ∧ Hp M L w') := by
      have := hq w h.hp
      unfold OpWp at this ⊢
      rw [sem_agree hpl hag]; exact this
    obtain ⟨u, w', ⟨hu, hp'⟩, hs⟩ := hop.steps C.b ops i rest k C.cs rfl ho (by rw [wanted_agree hag]; exact hw)
    subst hu
    rw [hdst] at hs
    exact ⟨_, w', hs, fin u w' hv hp'⟩
  | false =>
    have hstep := stepR_op_skip (P := P) (b := C.b) (a := a) (k := k) (cs := C.cs) (w := w) (ops := ops) (i := i) (rest := rest) (by rw [ho]; simpa using hw)
    rw [ho] at hstep
    simp only [Option.bind_some, hdst] at hstep
    rw [wanted_agree hag] at hw
    exact ⟨_, w, .one hstep, fin undef w (h2 hw) h.hp⟩

theorem go_step {fuel t : Nat} {listed : Array Bool} : Region.linearise.go .any ops (fuel + 1) t listed [] =
    match (Region.ready .any ops listed)[t % (Region.ready .any ops listed).length]? with
      | some i => i :: Region.linearise.go .any ops fuel (t / (Region.ready .any ops listed).length) (listed.setIfInBounds i true) []
      | none => [] := by
  simp only [Region.linearise.go]
  change (match (Region.ready .any ops listed)[t % (Region.ready .any ops listed).length]? with
      | some i => Region.linearise.go .any ops fuel (t / (Region.ready .any ops listed).length) (listed.setIfInBounds i true) [i]
      | none => [].reverse) = _
  cases (Region.ready .any ops listed)[t % (Region.ready .any ops listed).length]? with
  | none => rfl
  | some i => simp only []; rw [linearise_go_acc]; rfl

/-- whatever is drawn: the plan's operations, till one comes that the plan has not yet, or all are done -/
theorem pump (hac : acyc ops = true)
    (hE : ∀ a â w listed fuel t i, PRst P C n ops ds D X σ δ M L a â w listed (fuel + 1) → i ∈ Region.ready .any ops listed → i ∉ D → J P C.cs C.Φ (C.b.atR a (.inRegion ops (i :: Region.linearise.go .any ops fuel t (listed.setIfInBounds i true) []) :: k)) w)
    (hEnd : ∀ a w, a.tmps.size = n → a.defers = ds → Sees σ δ a → Hp M L w → (∀ i, i < ops.size → i ∈ D) → J P C.cs C.Φ (C.b.atR a (.inRegion ops [] :: k)) w) :
    PR P C n ops k ds D X σ δ M L := by
  have done : ∀ a â w listed fuel, PRst P C n ops ds D X σ δ M L a â w listed fuel → Region.ready .any ops listed = [] → J P C.cs C.Φ (C.b.atR a (.inRegion ops [] :: k)) w := fun a â w listed fuel h hr => by
    have hall := all_lst hac h.hsz hr
    have hag : ∀ t, a.tmps[t]? = â.tmps[t]? := fun t => h.agree t fun q hq hqn hqs => by
      by_cases hlt : q < ops.size
      · exact hqn (hall q hlt)
      · unfold slotOf at hqs; rw [Array.getElem?_eq_none (by omega)] at hqs; cases hqs
    have heq : a = â := by
      have h1 : a.tmps = â.tmps := Array.ext_getElem? (fun t => hag t)
      have h2 : a.defers = â.defers := h.ad.trans h.hd.symm
      cases a; cases â; simp_all
    exact hEnd a w h.an h.ad (heq ▸ h.sees) h.hp fun i hi => h.sub i (hall i hi)
  intro a â w listed fuel
  induction fuel generalizing a w listed with
  | zero =>
    intro t h
    have hr : Region.ready .any ops listed = [] := by
      cases hx : Region.ready .any ops listed with
      | nil => rfl
      | cons i l =>
        obtain ⟨h1, h2, _⟩ := (ready_iff h.hsz).1 (by rw [hx]; exact List.mem_cons_self)
        have hm : i ∈ (List.range ops.size).filter (fun i => !listed.getD i true) := List.mem_filter.2 ⟨List.mem_range.2 h1, by rw [(not_lst (by rw [h.hsz]; exact h1)).2 h2]; rfl⟩
        have := List.length_pos_of_mem hm
        have := h.cnt
        omega
    exact done a â w listed 0 h hr
  | succ fuel ih =>
    intro t h
    rw [go_step]
    cases hx : (Region.ready .any ops listed)[t % (Region.ready .any ops listed).length]? with
    | none =>
      refine done a â w listed _ h ?_
      cases hr : Region.ready .any ops listed with
      | nil => rfl
      | cons x xs =>
        rw [hr] at hx
        have hlt : t % (x :: xs).length < (x :: xs).length := Nat.mod_lt _ (by simp)
        rw [List.getElem?_eq_getElem hlt] at hx; cases hx
    | some i =>
      have hr := List.mem_of_getElem? hx
      simp only []
      by_cases hi : i ∈ D
      · obtain ⟨a', w', hs, h'⟩ := h.exec (k := k) hr hi (Region.linearise.go .any ops fuel (t / (Region.ready .any ops listed).length) (listed.setIfInBounds i true) [])
        exact J.steps hs (ih a' w' _ _ h')
      · exact hE a â w listed fuel _ i h hr hi

/-- the plan is whole -/
theorem pr_end (hac : acyc ops = true) (hall : (List.range ops.size).all (memN D) = true) (h : Run P C n k ds σ M L) : PR P C n ops k ds D X σ δ M L :=
  pump hac (fun _ _ _ _ _ _ i hst hr hi => by
      obtain ⟨hlt, _, _⟩ := (ready_iff hst.hsz).1 hr
      exact absurd (memN_iff.1 (List.all_eq_true.1 hall i (List.mem_range.2 hlt))) hi)
    (fun a w h1 h2 h3 h4 _ => J.step stepR_region_end (h a w h1 h2 h3.nil h4))

theorem freeOf_spec {d q : Nat} (h : freeOf ops d q = true) : d ∉ looks ops q ∧ slotOf ops q ≠ some d := by
  simp only [freeOf, Bool.and_eq_true, Bool.not_eq_true'] at h
  refine ⟨memN_false h.1, fun e => ?_⟩
  have := h.2
  unfold slotIs at this; rw [e] at this; simp at this

theorem dataOk_spec {i q d : Nat} (h : dataOk ops i q = true) (hs : slotOf ops q = some d) (hd : d ∈ looks ops i) : q ∈ predsAt ops i := by
  unfold dataOk at h
  rw [hs] at h
  simp only [Bool.or_eq_true, Bool.not_eq_true'] at h
  rcases h with h | h
  · exact absurd hd (memN_false h)
  · exact memN_iff.1 h

/-- one more operation is taken into the plan: a quiet one -/
theorem PRst.add {a â : Act} {w : World} {listed : Array Bool} {fuel : Nat} (h : PRst P C n ops ds D X σ δ M L a â w listed fuel) {i d : Nat} (hchk : chkQ ops D i = true) (hsl : slotOf ops i = some d) (hd : d < n) {u : Value} {σ' : Env} {δ' : Den}
    (hs : Sees σ' δ' (â.put (some d) u)) (hq : Pend P C.b.roundOf ops i (â.put (some d) u) M L) : PRst P C n ops ds (i :: D) X σ' δ' M L a (â.put (some d) u) w listed fuel := by
  unfold chkQ at hchk
  rw [hsl] at hchk
  simp only [Bool.and_eq_true, Bool.not_eq_true'] at hchk
  obtain ⟨⟨⟨⟨_, hni⟩, _⟩, hself⟩, hD⟩ := hchk
  have hni' := memN_false hni
  have hdn : d < â.tmps.size := by rw [h.hn]; exact hd
  have hfree : ∀ q ∈ D, d ∉ looks ops q ∧ slotOf ops q ≠ some d := fun q hq => by
    have := List.all_eq_true.1 hD q hq
    simp only [Bool.and_eq_true] at this
    exact freeOf_spec this.1
  have hdata : ∀ q ∈ D, ∀ e, slotOf ops q = some e → e ∈ looks ops i → q ∈ predsAt ops i := fun q hq e h1 h2 => by
    have := List.all_eq_true.1 hD q hq
    simp only [Bool.and_eq_true] at this
    exact dataOk_spec this.2 h1 h2
  have hil : ¬ Lst listed i := fun x => hni' (h.sub i x)
  exact {
    hsz := h.hsz
    cnt := h.cnt
    an := h.an
    hn := by rw [put_size]; exact h.hn
    ad := h.ad
    hd := by rw [put_defers]; exact h.hd
    sees := hs
    hp := h.hp
    down := h.down
    sub := fun j hj => List.mem_cons_of_mem _ (h.sub j hj)
    ex := h.ex
    pend := fun q hqD hqn => by
      rcases List.mem_cons.1 hqD with rfl | hqD
      · exact hq
      · have hp := h.pend q hqD hqn
        obtain ⟨o, e, ho, hdst, _⟩ := hp
        have hse : slotOf ops q = some e := by rw [slot_of (d := e) ho]; exact hdst
        refine Pend.congr (d := e) hse (fun t ht => ?_) ?_ (h.pend q hqD hqn)
        · rw [put_get hdn, if_neg]; exact fun x => (hfree q hqD).1 (x ▸ ht)
        · rw [put_get hdn, if_neg]; exact fun x => (hfree q hqD).2 (x ▸ hse)
    agree := fun t ht => by
      have hne : t ≠ d := fun x => ht i (by simp) hil (by rw [hsl, x])
      rw [put_get hdn, if_neg hne]
      exact h.agree t fun q hqD hqn => ht q (List.mem_cons_of_mem _ hqD) hqn
    wf := fun j hj hjn q hqD hqn e hse he => by
      rcases List.mem_cons.1 hj with rfl | hj' <;> rcases List.mem_cons.1 hqD with rfl | hqD'
      · rw [hsl] at hse; injection hse with hse; subst hse; exact absurd he (memN_false hself)
      · exact hdata q hqD' e hse he
      · rw [hsl] at hse; injection hse with hse; subst hse; exact absurd he (hfree j hj').1
      · exact h.wf j hj' hjn q hqD' hqn e hse he
    uniq := fun j hj hjn q hqD hqn hne => by
      rcases List.mem_cons.1 hj with rfl | hj' <;> rcases List.mem_cons.1 hqD with rfl | hqD'
      · exact absurd rfl hne
      · rw [hsl]; exact fun x => (hfree q hqD').2 x.symm
      · rw [hsl]; exact (hfree j hj').2
      · exact h.uniq j hj' hjn q hqD' hqn hne }

theorem self_agree {a : Act} {d i : Nat} (hd : d < a.tmps.size) (hs : d ∉ looks ops i) (u : Value) : ∀ t ∈ looks ops i, (a.put (some d) u).tmps[t]? = a.tmps[t]? := fun t ht => by
  rw [put_get hd, if_neg]; exact fun x => hs (x ▸ ht)

theorem chkQ_parts {i d : Nat} (h : chkQ ops D i = true) (hsl : slotOf ops i = some d) : plainAt ops i = true ∧ d ∉ looks ops i := by
  unfold chkQ at h
  rw [hsl] at h
  simp only [Bool.and_eq_true, Bool.not_eq_true'] at h
  exact ⟨h.1.1.1.1, memN_false h.1.2⟩

/-- a quiet operation is taken into the plan -/
theorem pr_q (i : Nat) {d : Nat} {op : Op} {ty : TypeId} {pos : String} {aft : Array Edge} {v : Value} (hchk : chkQ ops D i = true) (ho : ops[i]? = some ⟨some d, op, ty, pos, aft, none⟩)
    (hq : Qt P C.b.roundOf ⟨some d, op, ty, pos, aft, none⟩ σ δ [] M L v) (hd : Nat.blt d n = true) (hn : lkd δ d = none) (hu : unNamed δ d = true)
    (h : PR P C n ops k ds (i :: D) X ((d, v) :: σ) δ M L) : PR P C n ops k ds D X σ δ M L := fun a â w listed fuel t hst => by
  have hsl : slotOf ops i = some d := by rw [slot_of (d := d) ho]
  have hd' := Nat.blt_eq.mp hd
  have hdn : d < â.tmps.size := by rw [hst.hn]; exact hd'
  obtain ⟨hpl, hself⟩ := chkQ_parts hchk hsl
  have hlk : looks ops i = Oper.looksAt ops ⟨some d, op, ty, pos, aft, none⟩ := by unfold looks; rw [ho]
  refine h a (â.put (some d) v) w listed fuel t (hst.add hchk hsl hd' (hst.sees.put hdn hn hu v) ?_)
  refine ⟨_, d, ho, rfl, by unfold plainAt at hpl; rw [ho] at hpl; exact hpl, fun _ => ⟨v, by rw [put_get hdn, if_pos rfl], fun w' hw' => ?_⟩, fun hw => by simp [Region.wanted] at hw⟩
  have := hq â w' hst.sees (holds_nil _) hw'
  have := this.mono (K' := fun u w' => u = v ∧ Hp M L w') fun u w'' ⟨M', L', h1, h2, h3, h4⟩ => ⟨h2, by subst h3 h4; exact h1⟩
  unfold OpWp at this ⊢
  rw [sem_agree (ops := ops) (a := â.put (some d) v) (a' := â) (by unfold plainAt at hpl; rw [ho] at hpl; exact hpl) (by rw [← hlk]; exact self_agree hdn hself v)]
  exact this

/-- a quiet operation under a guard is taken into the plan -/
theorem pr_g (i : Nat) {d : Nat} {op : Op} {ty : TypeId} {pos : String} {aft : Array Edge} {v : Value} {j s : Nat} {want c : Bool} {p : Path} (hchk : chkQ ops D i = true) (ho : ops[i]? = some ⟨some d, op, ty, pos, aft, some (j, want)⟩)
    (hj : slotOf ops j = some s) (hg : lkg σ δ s = some (p, .bool c))
    (hq : Qt P C.b.roundOf ⟨some d, op, ty, pos, aft, some (j, want)⟩ σ δ ((s, want) :: p) M L v) (hd : Nat.blt d n = true) (hn : lkd δ d = none) (hsd : lks σ d = none) (hu : unNamed δ d = true) (hp : unP ((s, want) :: p) d = true)
    (h : PR P C n ops k ds (i :: D) X σ ((d, (s, want) :: p, v) :: δ) M L) : PR P C n ops k ds D X σ δ M L := fun a â w listed fuel t hst => by
  have hsl : slotOf ops i = some d := by rw [slot_of (d := d) ho]
  have hd' := Nat.blt_eq.mp hd
  have hdn : d < â.tmps.size := by rw [hst.hn]; exact hd'
  obtain ⟨hpl, hself⟩ := chkQ_parts hchk hsl
  have hlk : looks ops i = Oper.looksAt ops ⟨some d, op, ty, pos, aft, some (j, want)⟩ := by unfold looks; rw [ho]
  have hpl' : plainOp op = true := by unfold plainAt at hpl; rw [ho] at hpl; exact hpl
  have hgs := lkg_sound hst.sees hg
  by_cases hw : â.tmps[s]? = some (.bool want)
  · have hpp : holds â p := by
      apply Classical.byContradiction
      intro hnp
      have := hgs.2 hnp
      rw [hw] at this; simp [undef] at this
    have hcur : holds â ((s, want) :: p) := fun x hx => by
      rcases List.mem_cons.1 hx with rfl | hx
      · exact hw
      · exact hpp x hx
    have hag := self_agree (ops := ops) (i := i) hdn hself v
    have hwant : Region.wanted ⟨some d, op, ty, pos, aft, some (j, want)⟩ (yielded ops (â.put (some d) v).tmps) = true := by
      rw [wanted_agree (ops := ops) (a' := â) (by rw [← hlk]; exact hag)]
      simp only [Region.wanted]; exact beq_some_bool.2 ((yielded_some hj).2 hw)
    refine h a (â.put (some d) v) w listed fuel t (hst.add hchk hsl hd' (hst.sees.putG hdn hn hsd hu (unP_sound hp) ⟨fun _ => rfl, fun hx => absurd hcur hx⟩) ?_)
    refine ⟨_, d, ho, rfl, hpl', fun _ => ⟨v, by rw [put_get hdn, if_pos rfl], fun w' hw' => ?_⟩, fun hx => by rw [hwant] at hx; cases hx⟩
    have := hq â w' hst.sees hcur hw'
    have := this.mono (K' := fun u w' => u = v ∧ Hp M L w') fun u w'' ⟨M', L', h1, h2, h3, h4⟩ => ⟨h2, by subst h3 h4; exact h1⟩
    unfold OpWp at this ⊢
    rw [sem_agree (ops := ops) (a := â.put (some d) v) (a' := â) hpl' (by rw [← hlk]; exact hag)]
    exact this
  · have hag := self_agree (ops := ops) (i := i) hdn hself undef
    have hnw : Region.wanted ⟨some d, op, ty, pos, aft, some (j, want)⟩ (yielded ops (â.put (some d) undef).tmps) = false := by
      rw [wanted_agree (ops := ops) (a' := â) (by rw [← hlk]; exact hag)]
      cases hx : Region.wanted ⟨some d, op, ty, pos, aft, some (j, want)⟩ (yielded ops â.tmps) with
      | false => rfl
      | true => simp only [Region.wanted] at hx; exact absurd ((yielded_some hj).1 (beq_some_bool.1 hx)) hw
    refine h a (â.put (some d) undef) w listed fuel t (hst.add hchk hsl hd' (hst.sees.putG hdn hn hsd hu (unP_sound hp) ⟨fun hx => absurd (hx (s, want) (by simp)) hw, fun _ => rfl⟩) ?_)
    exact ⟨_, d, ho, rfl, hpl', (fun hx => by rw [hnw] at hx; cases hx), fun _ => by rw [put_get hdn, if_pos rfl]⟩

/-- an operation whose guard is known to fail is passed over -/
theorem pr_gF (i : Nat) {d : Nat} {op : Op} {ty : TypeId} {pos : String} {aft : Array Edge} {j s : Nat} {want : Bool} (hchk : chkQ ops D i = true) (ho : ops[i]? = some ⟨some d, op, ty, pos, aft, some (j, want)⟩)
    (hj : slotOf ops j = some s) (hg : knows σ s (!want) = true) (hd : Nat.blt d n = true) (hn : lkd δ d = none) (hu : unNamed δ d = true)
    (h : PR P C n ops k ds (i :: D) X ((d, undef) :: σ) δ M L) : PR P C n ops k ds D X σ δ M L := fun a â w listed fuel t hst => by
  have hsl : slotOf ops i = some d := by rw [slot_of (d := d) ho]
  have hd' := Nat.blt_eq.mp hd
  have hdn : d < â.tmps.size := by rw [hst.hn]; exact hd'
  obtain ⟨hpl, hself⟩ := chkQ_parts hchk hsl
  have hlk : looks ops i = Oper.looksAt ops ⟨some d, op, ty, pos, aft, some (j, want)⟩ := by unfold looks; rw [ho]
  have hpl' : plainOp op = true := by unfold plainAt at hpl; rw [ho] at hpl; exact hpl
  have hv := knows_sound hst.sees hg
  have hag := self_agree (ops := ops) (i := i) hdn hself undef
  have hnw : Region.wanted ⟨some d, op, ty, pos, aft, some (j, want)⟩ (yielded ops (â.put (some d) undef).tmps) = false := by
    rw [wanted_agree (ops := ops) (a' := â) (by rw [← hlk]; exact hag)]
    cases hx : Region.wanted ⟨some d, op, ty, pos, aft, some (j, want)⟩ (yielded ops â.tmps) with
    | false => rfl
    | true =>
      simp only [Region.wanted] at hx
      have := (yielded_some hj).1 (beq_some_bool.1 hx)
      rw [hv] at this
      cases want <;> simp at this
  refine h a (â.put (some d) undef) w listed fuel t (hst.add hchk hsl hd' (hst.sees.put hdn hn hu undef) ?_)
  exact ⟨_, d, ho, rfl, hpl', (fun hx => by rw [hnw] at hx; cases hx), fun _ => by rw [put_get hdn, if_pos rfl]⟩

theorem befs_lst {listed : Array Bool} {e : Nat} (hdown : ∀ i, Lst listed i → ∀ p ∈ predsAt ops i, Lst listed p) (hpr : ∀ p ∈ predsAt ops e, Lst listed p) : ∀ q ∈ befs ops e, q = e ∨ Lst listed q := by
  unfold befs
  suffices ∀ (l acc : List Nat), (∀ q ∈ acc, q = e ∨ Lst listed q) → ∀ q ∈ l.foldl (fun acc i => if acc.any (fun j => memN (predsAt ops j) i) then i :: acc else acc) acc, q = e ∨ Lst listed q from
    this _ [e] (fun q hq => .inl (by simpa using hq))
  intro l
  induction l with
  | nil => exact fun acc h q hq => h q hq
  | cons i l ih =>
    intro acc h
    simp only [List.foldl_cons]
    refine ih _ ?_
    split
    · rename_i hany
      intro q hq
      rcases List.mem_cons.1 hq with rfl | hq
      · obtain ⟨j, hj, hm⟩ := List.any_eq_true.1 hany
        have hm' := memN_iff.1 hm
        rcases h j hj with rfl | hl
        · exact .inr (hpr q hm')
        · exact .inr (hdown j hl q hm')
      · exact h q hq
    · exact h

/-- what may still be open of the plan when e comes -/
def open_ (ops : Array Oper) (D X : List Nat) (e : Nat) : List Nat := D.filter (fun q => !memN (befs ops e) q && !memN X q)

/-- the guard is known to hold -/
def gdOk (ops : Array Oper) (σ : Env) : Option (Nat × Bool) → Bool
  | none => true
  | some (j, want) => match slotOf ops j with | some s => knows σ s want | none => false
/-- an operation that turns memory -/
def EffOk (P : Program) (C : Cx) (n : Nat) (ops : Array Oper) (k : List Item) (ds : List Deferred) (D X : List Nat) (σ : Env) (δ : Den) (M : Mem) (L : HL) (e : Nat) : Prop :=
  ∃ (dst : Option Nat) (op : Op) (ty : TypeId) (pos : String) (aft : Array Edge) (K : Value → Mem → HL → Prop) (σ' : Value → Env) (gd : Option (Nat × Bool)), gdOk ops σ gd = true ∧ ops[e]? = some ⟨dst, op, ty, pos, aft, gd⟩ ∧
    St P C.b.roundOf ⟨dst, op, ty, pos, aft, gd⟩ σ δ [] M L K ∧
    (∀ a v, a.tmps.size = n → Sees σ δ a → Sees (σ' v) δ (a.put dst v)) ∧
    (∀ v M' L', K v M' L' → ∀ q ∈ open_ ops D X e, ∀ a, Sees σ δ a → Pend P C.b.roundOf ops q a M L → Pend P C.b.roundOf ops q a M' L') ∧
    (∀ v M' L', K v M' L' → PR P C n ops k ds (e :: D) (e :: X) (σ' v) δ M' L')

/-- the operations that turn memory and may come next -/
theorem pr_es (Es : List Nat) (hac : acyc ops = true) (hC : chkC ops D Es = true) (hEs : Es ≠ []) (hall : ∀ e ∈ Es, chkE1 ops D e = true ∧ EffOk P C n ops k ds D X σ δ M L e) : PR P C n ops k ds D X σ δ M L := by
  obtain ⟨e0, he0⟩ : ∃ e, e ∈ Es := by cases Es with | nil => exact absurd rfl hEs | cons e _ => exact ⟨e, List.mem_cons_self⟩
  have h00 := (hall e0 he0).1
  unfold chkE1 at h00
  simp only [Bool.and_eq_true, Bool.not_eq_true'] at h00
  have hlt0 := Nat.blt_eq.mp h00.1.1.1.1
  have hne0 := memN_false h00.1.1.2
  refine pump hac ?_ (fun a w h1 h2 h3 h4 hall => absurd (hall e0 hlt0) hne0)
  intro a â w listed fuel t i hs hr hi
  obtain ⟨hil, hin, hpr⟩ := (ready_iff hs.hsz).1 hr
  have hiE : i ∈ Es := by
    have := List.all_eq_true.1 hC i (List.mem_range.2 hil)
    simp only [Bool.or_eq_true, Bool.not_eq_true'] at this
    rcases this with (h1 | h1) | h1
    · exact absurd (memN_iff.1 h1) hi
    · exact memN_iff.1 h1
    · have : (predsAt ops i).all (memN D) = true := List.all_eq_true.2 fun p hp => memN_iff.2 (hs.sub p (hpr p hp))
      rw [this] at h1; cases h1
  obtain ⟨hchk, dst, op, ty, pos, aft, K, σ', gd, hgd, ho, hst, hsee, hopen, h⟩ := hall i hiE
  unfold chkE1 at hchk
  simp only [Bool.and_eq_true, Bool.not_eq_true'] at hchk
  obtain ⟨⟨⟨⟨hlt, hpl⟩, hne⟩, _⟩, hD⟩ := hchk
  have hne' := memN_false hne
  have hpl' : plainOp op = true := by unfold plainAt at hpl; rw [ho] at hpl; exact hpl
  have hlk : looks ops i = Oper.looksAt ops ⟨dst, op, ty, pos, aft, gd⟩ := by unfold looks; rw [ho]
  have hsl : slotOf ops i = dst := by rw [slot_of (d := 0) ho]
  have hil' : i < listed.size := by rw [hs.hsz]; exact hil
  -- what is open is not before it
  have hbef := befs_lst (listed := listed) (e := i) hs.down hpr
  have hop : ∀ q ∈ D, ¬ Lst listed q → memN (befs ops i) q = false ∧ (∀ d, slotOf ops q = some d → d ∉ looks ops i) ∧ (∀ d, dst = some d → d ∉ looks ops q ∧ slotOf ops q ≠ some d) := fun q hq hqn => by
    have hb : memN (befs ops i) q = false := by
      cases hx : memN (befs ops i) q with
      | false => rfl
      | true =>
        rcases hbef q (memN_iff.1 hx) with rfl | hl
        · exact absurd hq hne'
        · exact absurd hl hqn
    have := List.all_eq_true.1 hD q hq
    simp only [hb, Bool.false_or, Bool.and_eq_true, Bool.not_eq_true'] at this
    refine ⟨hb, fun d hd => ?_, fun d hd => ?_⟩
    · have h2 := this.1.2
      rw [hd] at h2
      exact memN_false h2
    · have h3 := this.2
      rw [hsl, hd] at h3
      exact freeOf_spec h3
  have hag : ∀ t ∈ Oper.looksAt ops ⟨dst, op, ty, pos, aft, gd⟩, a.tmps[t]? = â.tmps[t]? := fun t ht => by
    rw [← hlk] at ht
    exact hs.agree t fun q hq hqn hqs => (hop q hq hqn).2.1 t hqs ht
  have hopw : OpWp P C.b.roundOf ⟨dst, op, ty, pos, aft, gd⟩ a w (fun v w' => ∃ M' L', Hp M' L' w' ∧ K v M' L') := by
    have := hst â w hs.sees (holds_nil _) hs.hp
    unfold OpWp at this ⊢
    rw [sem_agree (ops := ops) hpl' hag]; exact this
  have hwant : Region.wanted ⟨dst, op, ty, pos, aft, gd⟩ (yielded ops a.tmps) = true := by
    rw [wanted_agree (ops := ops) (a' := â) hag]
    cases gd with
    | none => rfl
    | some g =>
      obtain ⟨jj, want⟩ := g
      unfold gdOk at hgd
      cases hj : slotOf ops jj with
      | none => simp only [hj] at hgd; cases hgd
      | some s =>
        simp only [hj] at hgd
        simp only [Region.wanted]
        exact beq_some_bool.2 ((yielded_some hj).2 (knows_sound hs.sees hgd))
  obtain ⟨v, w', ⟨M', L', hp', hK⟩, hsteps⟩ := hopw.steps C.b ops i (Region.linearise.go .any ops fuel t (listed.setIfInBounds i true) []) k C.cs rfl ho hwant
  refine J.steps hsteps (h v M' L' hK (a.put dst v) (â.put dst v) w' _ fuel t ?_)
  have hq' : ∀ q, ¬ Lst (listed.setIfInBounds i true) q → q ≠ i ∧ ¬ Lst listed q := fun q hq => ⟨fun e => hq ((lst_set hil').2 (.inl e)), fun e => hq ((lst_set hil').2 (.inr e))⟩
  have hD' : ∀ q, q ∈ i :: D → ¬ Lst (listed.setIfInBounds i true) q → q ∈ D ∧ ¬ Lst listed q := fun q hq hqn => by
    obtain ⟨h1, h2⟩ := hq' q hqn
    exact ⟨(List.mem_cons.1 hq).resolve_left h1, h2⟩
  have hput : ∀ (x : Act) t, x.tmps.size = n → (∀ d, dst = some d → t ≠ d) → (x.put dst v).tmps[t]? = x.tmps[t]? := fun x t hx ht => by
    cases dst with
    | none => rfl
    | some d =>
      show (x.tmps.setIfInBounds d v)[t]? = _
      rw [Array.getElem?_setIfInBounds_ne (fun e => ht d rfl e.symm)]
  exact {
    hsz := by simpa using hs.hsz
    cnt := cnt_set hs.hsz hil hin hs.cnt
    an := by rw [put_size]; exact hs.an
    hn := by rw [put_size]; exact hs.hn
    ad := by rw [put_defers]; exact hs.ad
    hd := by rw [put_defers]; exact hs.hd
    sees := hsee â v hs.hn hs.sees
    hp := hp'
    down := fun j hj p hp => by
      rw [lst_set hil'] at hj ⊢
      rcases hj with rfl | hj
      · exact .inr (hpr p hp)
      · exact .inr (hs.down j hj p hp)
    sub := fun j hj => by
      rw [lst_set hil'] at hj
      rcases hj with rfl | hj
      · exact List.mem_cons_self
      · exact List.mem_cons_of_mem _ (hs.sub j hj)
    ex := fun j hj => by
      rw [lst_set hil']
      rcases List.mem_cons.1 hj with rfl | hj
      · exact .inl rfl
      · exact .inr (hs.ex j hj)
    pend := fun q hq hqn => by
      obtain ⟨h1, h2⟩ := hD' q hq hqn
      have hp := hopen v M' L' hK q (List.mem_filter.2 ⟨h1, by
        have hx : memN X q = false := by
          cases hx : memN X q with
          | false => rfl
          | true => exact absurd (hs.ex q (memN_iff.1 hx)) h2
        rw [(hop q h1 h2).1, hx]; rfl⟩) â hs.sees (hs.pend q h1 h2)
      obtain ⟨o, d, ho', hdst, _⟩ := hs.pend q h1 h2
      have hse : slotOf ops q = some d := by rw [slot_of (d := d) ho']; exact hdst
      refine Pend.congr (d := d) hse (fun t ht => ?_) ?_ hp
      · exact (hput â t hs.hn fun d' hd' x => ((hop q h1 h2).2.2 d' hd').1 (x ▸ ht)).symm
      · exact (hput â d hs.hn fun d' hd' x => ((hop q h1 h2).2.2 d' hd').2 (x ▸ hse)).symm
    agree := fun t ht => by
      cases hd : dst with
      | none =>
        exact hs.agree t fun q hq hqn => ht q (List.mem_cons_of_mem _ hq) (fun x => by rw [lst_set hil'] at x; exact x.elim (fun e => by subst e; exact hne' hq) hqn)
      | some d =>
        by_cases e : t = d
        · subst e
          show (a.tmps.setIfInBounds t v)[t]? = (â.tmps.setIfInBounds t v)[t]?
          have e1 := hs.an
          have e2 := hs.hn
          by_cases hb : t < n
          · rw [Array.getElem?_setIfInBounds_self_of_lt (by omega), Array.getElem?_setIfInBounds_self_of_lt (by omega)]
          · rw [Array.getElem?_eq_none (by simp; omega), Array.getElem?_eq_none (by simp; omega)]
        · have h1 := hput a t hs.an (fun d' hd' x => e (by rw [hd] at hd'; injection hd' with hd'; rw [x, hd']))
          have h2 := hput â t hs.hn (fun d' hd' x => e (by rw [hd] at hd'; injection hd' with hd'; rw [x, hd']))
          rw [hd] at h1 h2
          rw [h1, h2]
          exact hs.agree t fun q hq hqn => ht q (List.mem_cons_of_mem _ hq) (fun x => by rw [lst_set hil'] at x; exact x.elim (fun e => by subst e; exact hne' hq) hqn)
    wf := fun j hj hjn q hq hqn => hs.wf j (hD' j hj hjn).1 (hD' j hj hjn).2 q (hD' q hq hqn).1 (hD' q hq hqn).2
    uniq := fun j hj hjn q hq hqn => hs.uniq j (hD' j hj hjn).1 (hD' j hj hjn).2 q (hD' q hq hqn).1 (hD' q hq hqn).2 }

theorem chkE_parts {e : Nat} (h : chkE ops D e = true) : chkE1 ops D e = true ∧ chkC ops D [e] = true := by
  unfold chkE at h
  unfold chkE1 chkC
  simp only [Bool.and_eq_true] at h ⊢
  obtain ⟨⟨⟨⟨⟨h1, h2⟩, h3⟩, h4⟩, h5⟩, h6⟩ := h
  refine ⟨⟨⟨⟨⟨h1, h2⟩, h3⟩, h4⟩, h6⟩, ?_⟩
  refine List.all_eq_true.2 fun i hi => ?_
  have := List.all_eq_true.1 h5 i hi
  simp only [Bool.or_eq_true, Bool.not_eq_true'] at this ⊢
  rcases this with (h | h) | h
  · exact .inl (.inl h)
  · exact .inl (.inr (memN_iff.2 (by rw [Nat.eq_of_beq_eq_true h]; simp)))
  · exact .inr h

/-- an operation that turns memory: the next that can come -/
theorem pr_e (e : Nat) {dst : Option Nat} {op : Op} {ty : TypeId} {pos : String} {aft : Array Edge} {K : Value → Mem → HL → Prop} {σ' : Value → Env} (hchk : chkE ops D e = true) (hac : acyc ops = true) (ho : ops[e]? = some ⟨dst, op, ty, pos, aft, none⟩)
    (hst : St P C.b.roundOf ⟨dst, op, ty, pos, aft, none⟩ σ δ [] M L K)
    (hsee : ∀ a v, a.tmps.size = n → Sees σ δ a → Sees (σ' v) δ (a.put dst v))
    (hopen : ∀ v M' L', K v M' L' → ∀ q ∈ open_ ops D X e, ∀ a, Sees σ δ a → Pend P C.b.roundOf ops q a M L → Pend P C.b.roundOf ops q a M' L')
    (h : ∀ v M' L', K v M' L' → PR P C n ops k ds (e :: D) (e :: X) (σ' v) δ M' L') : PR P C n ops k ds D X σ δ M L := by
  obtain ⟨h1, h2⟩ := chkE_parts hchk
  refine pr_es [e] hac h2 (by simp) fun x hx => ?_
  obtain rfl : x = e := by simpa using hx
  exact ⟨h1, dst, op, ty, pos, aft, K, σ', none, rfl, ho, hst, hsee, hopen, h⟩

/-- what is still open of the plan stays what it is -/
def PendAll (P : Program) (ro : Option Nat) (ops : Array Oper) (σ : Env) (δ : Den) (M : Mem) (L : HL) : List Nat → Prop
  | [] => True
  | q :: qs => (∀ a, Sees σ δ a → Pend P ro ops q a M L) ∧ PendAll P ro ops σ δ M L qs
theorem PendAll.mem {ro : Option Nat} : ∀ {qs : List Nat}, PendAll P ro ops σ δ M L qs → ∀ q ∈ qs, ∀ a, Sees σ δ a → Pend P ro ops q a M L
  | [], _, q, hq => by cases hq
  | q' :: qs, h, q, hq => by
    rcases List.mem_cons.1 hq with rfl | hq
    · exact h.1
    · exact PendAll.mem h.2 q hq
theorem pend_q {ro : Option Nat} {q d : Nat} {op : Op} {ty : TypeId} {pos : String} {aft : Array Edge} {v : Value} (ho : ops[q]? = some ⟨some d, op, ty, pos, aft, none⟩) (hpl : plainOp op = true) (hv : lks σ d = some v) (hq : Qt P ro ⟨some d, op, ty, pos, aft, none⟩ σ δ [] M L v) : ∀ a, Sees σ δ a → Pend P ro ops q a M L :=
  fun a hs => ⟨_, d, ho, rfl, hpl, fun _ => ⟨v, hs.s _ _ hv, fun w hw => (hq a w hs (holds_nil a) hw).mono fun u w' ⟨M', L', h1, h2, h3, h4⟩ => ⟨h2, by subst h3 h4; exact h1⟩⟩, fun hw => by simp [Region.wanted] at hw⟩

/-- the region -/
theorem run_draw {id : Nat} (hm : P.follows .mixedOrders = true) (h : PR P C n ops k ds [] [] σ [] M L) : Run P C n (.code (.region id ops true) :: k) ds σ M L :=
  fun a w h1 h2 h3 h4 => by
    refine J.step stepR_region_draw ?_
    rw [show Region.schedule (P.follows .mixedOrders) ops (w.tape w.drawn (.order C.b.fn id)) = Region.linearise.go .any ops ops.size (w.tape w.drawn (.order C.b.fn id)) (Array.replicate ops.size false) [] from by
      simp [Region.schedule, hm, Region.linearise]]
    have hl : ∀ i, ¬ Lst (Array.replicate ops.size false) i := fun i h => by
      unfold Lst at h
      simp only [Array.getD_eq_getD_getElem?] at h
      by_cases hi : i < ops.size
      · rw [Array.getElem?_replicate, if_pos hi] at h; cases h
      · rw [Array.getElem?_replicate, if_neg hi] at h; cases h
    exact h a a _ _ _ _ {
      hsz := by simp
      cnt := Nat.le_trans (List.length_filter_le _ _) (by simp)
      an := h1
      hn := h1
      ad := h2
      hd := h2
      sees := h3
      hp := h4.drawn _
      down := fun i hi => absurd hi (hl i)
      sub := fun i hi => absurd hi (hl i)
      ex := fun i hi => by cases hi
      pend := fun q hq => by cases hq
      agree := fun _ _ => rfl
      wf := fun i hi => by cases hi
      uniq := fun i hi => by cases hi }
end

end Go.Chi
