import Derived.Test.YtemiflllckincaaLgB
namespace Go.Chi

/-! ### the judgements -/

structure Cx where
  b : Frame
  cs : List Frame
  Φ : Frame → World → Prop

/-- from slots σ and memory M, L the frame, with k still to do, comes to its end -/
def Run (P : Program) (C : Cx) (n : Nat) (k : List Item) (ds : List Deferred) (σ : Env) (M : Mem) (L : HL) : Prop :=
  ∀ a w, a.tmps.size = n → a.defers = ds → Sees σ [] a → Hp M L w → J P C.cs C.Φ (C.b.atR a k) w

/-- the same, within a region: the operations l are still to be carried out, in this order -/
def RunL (P : Program) (C : Cx) (n : Nat) (ops : Array Oper) (l : List Oper) (k : List Item) (ds : List Deferred) (σ : Env) (δ : Den) (M : Mem) (L : HL) : Prop :=
  ∀ a w idx, a.tmps.size = n → a.defers = ds → Sees σ δ a → Hp M L w → idx.map (fun i => ops[i]?) = l.map some → J P C.cs C.Φ (C.b.atR a (.inRegion ops idx :: k)) w

/-- an operation, from slots and memory -/
def St (P : Program) (ro : Option Nat) (o : Oper) (σ : Env) (δ : Den) (cur : Path) (M : Mem) (L : HL) (K : Value → Mem → HL → Prop) : Prop :=
  ∀ a w, Sees σ δ a → holds a cur → Hp M L w → OpWp P ro o a w (fun v w' => ∃ M' L', Hp M' L' w' ∧ K v M' L')

/-- an operation that yields v and leaves memory alone -/
def Qt (P : Program) (ro : Option Nat) (o : Oper) (σ : Env) (δ : Den) (cur : Path) (M : Mem) (L : HL) (v : Value) : Prop :=
  St P ro o σ δ cur M L (fun v' M' L' => v' = v ∧ M' = M ∧ L' = L)

theorem St.mono {P : Program} {ro : Option Nat} {o : Oper} {σ : Env} {δ : Den} {cur : Path} {M : Mem} {L : HL} {K K' : Value → Mem → HL → Prop}
    (h : St P ro o σ δ cur M L K) (hk : ∀ v M' L', K v M' L' → K' v M' L') : St P ro o σ δ cur M L K' :=
  fun a w h1 h2 h3 => (h a w h1 h2 h3).mono fun _ _ ⟨M', L', h4, h5⟩ => ⟨M', L', h4, hk _ _ _ h5⟩

section
variable {P : Program} {C : Cx} {n : Nat} {k : List Item} {ds : List Deferred} {σ : Env} {δ : Den} {M : Mem} {L : HL} {ops : Array Oper}

theorem holds_nil (a : Act) : holds a [] := fun x hx => by cases hx

/-! ### control -/
theorem run_seq {x y : Code} (h : Run P C n (.code x :: .code y :: k) ds σ M L) : Run P C n (.code (.seq x y) :: k) ds σ M L :=
  fun a w h1 h2 h3 h4 => J.step stepR_seq (h a w h1 h2 h3 h4)
theorem run_skip (h : Run P C n k ds σ M L) : Run P C n (.code .skip :: k) ds σ M L :=
  fun a w h1 h2 h3 h4 => J.step stepR_skip (h a w h1 h2 h3 h4)
theorem run_label {l : Nat} (h : Run P C n k ds σ M L) : Run P C n (.code (.label l) :: k) ds σ M L :=
  fun a w h1 h2 h3 h4 => J.step stepR_label (h a w h1 h2 h3 h4)
theorem run_block {id : Nat} {c : Code} (h : Run P C n (.code c :: .inBlock id :: k) ds σ M L) : Run P C n (.code (.block id c) :: k) ds σ M L :=
  fun a w h1 h2 h3 h4 => J.step stepR_block (h a w h1 h2 h3 h4)
theorem run_inBlock {id : Nat} (h : Run P C n k ds σ M L) : Run P C n (.inBlock id :: k) ds σ M L :=
  fun a w h1 h2 h3 h4 => J.step stepR_inBlock (h a w h1 h2 h3 h4)
theorem run_loop {c : Code} (h : Run P C n (.code c :: .inLoop c :: k) ds σ M L) : Run P C n (.code (.loop c) :: k) ds σ M L :=
  fun a w h1 h2 h3 h4 => J.step stepR_loop (h a w h1 h2 h3 h4)
theorem run_inLoop {c : Code} (h : Run P C n (.code c :: .inLoop c :: k) ds σ M L) : Run P C n (.inLoop c :: k) ds σ M L :=
  fun a w h1 h2 h3 h4 => J.step stepR_inLoop (h a w h1 h2 h3 h4)
theorem run_exit {id : Nat} {k' : List Item} (hk : exitTo id k = some k') (h : Run P C n k' ds σ M L) : Run P C n (.code (.exit id) :: k) ds σ M L :=
  fun a w h1 h2 h3 h4 => J.step (stepR_exit hk) (h a w h1 h2 h3 h4)
theorem run_cond {c : Operand} {x y : Code} {t : Bool} (hc : ev σ [] [] c = some (.bool t)) (ht : t = true → Run P C n (.code x :: k) ds σ M L) (hf : t = false → Run P C n (.code y :: k) ds σ M L) :
    Run P C n (.code (.cond c x y) :: k) ds σ M L := fun a w h1 h2 h3 h4 => by
  have he := ev_sound h3 (holds_nil a) hc
  refine J.step (stepR_cond he) ?_
  cases t
  · exact hf rfl a w h1 h2 h3 h4
  · exact ht rfl a w h1 h2 h3 h4

/-- less is known of the slots: each slot of σ' has its value in σ -/
def subE (σ : Env) : Env → Prop
  | [] => True
  | (t, v) :: σ' => lks σ t = some v ∧ subE σ σ'
theorem subE_sound {σ : Env} : ∀ {σ' : Env}, subE σ σ' → ∀ t v, lks σ' t = some v → lks σ t = some v
  | [], _, t, v, h => by simp [lks] at h
  | (t', v') :: σ', hs, t, v, h => by
    rw [lks_cons] at h
    split at h
    · rename_i e; cases h; subst e; exact hs.1
    · exact subE_sound hs.2 t v h
theorem run_sub (σ' : Env) (hs : subE σ σ') (h : Run P C n k ds σ' M L) : Run P C n k ds σ M L :=
  fun a w h1 h2 h3 h4 => h a w h1 h2 ⟨fun t v e => h3.s t v (subE_sound hs t v e), fun t p v e => by simp [lkd] at e⟩ h4

theorem run_mem {M' : Mem} {L' : HL} (hm : ∀ w, Hp M L w → Hp M' L' w) (h : Run P C n k ds σ M' L') : Run P C n k ds σ M L :=
  fun a w h1 h2 h3 h4 => h a w h1 h2 h3 (hm w h4)

/-! ### a region in the order of the text -/
theorem range_map (ops : Array Oper) : (List.range ops.size).map (fun i => ops[i]?) = ops.toList.map some := by
  apply List.ext_getElem
  · simp
  · intro i h1 h2
    simp at h1
    simp [h1]

theorem run_region {id : Nat} (h : RunL P C n ops ops.toList k ds σ [] M L) : Run P C n (.code (.region id ops false) :: k) ds σ M L :=
  fun a w h1 h2 h3 h4 => J.step stepR_region (h a w _ h1 h2 h3 h4 (range_map ops))

theorem runL_nil (h : Run P C n k ds σ M L) : RunL P C n ops [] k ds σ δ M L := fun a w idx h1 h2 h3 h4 h5 => by
  cases idx with
  | nil => exact J.step stepR_region_end (h a w h1 h2 h3.nil h4)
  | cons i r => simp at h5

theorem runL_mem {l : List Oper} {M' : Mem} {L' : HL} (hm : ∀ w, Hp M L w → Hp M' L' w) (h : RunL P C n ops l k ds σ δ M' L') : RunL P C n ops l k ds σ δ M L :=
  fun a w idx h1 h2 h3 h4 h5 => h a w idx h1 h2 h3 (hm w h4) h5

theorem wanted_none {o : Oper} (h : o.guard = none) (y : Nat → Option Bool) : Region.wanted o y = true := by simp [Region.wanted, h]

theorem runL_op {d : Nat} {op : Op} {ty : TypeId} {pos : String} {aft : Array Edge} {l : List Oper} {K : Value → Mem → HL → Prop}
    (hst : St P C.b.roundOf ⟨some d, op, ty, pos, aft, none⟩ σ δ [] M L K) (hd : Nat.blt d n = true) (hn : lkd δ d = none) (hu : unNamed δ d = true)
    (h : ∀ v M' L', K v M' L' → RunL P C n ops l k ds ((d, v) :: σ) δ M' L') : RunL P C n ops (⟨some d, op, ty, pos, aft, none⟩ :: l) k ds σ δ M L := fun a w idx h1 h2 h3 h4 h5 => by
  cases idx with
  | nil => simp at h5
  | cons i r =>
    simp only [List.map_cons, List.cons.injEq] at h5
    obtain ⟨v, w', ⟨M', L', hp, hK⟩, hs⟩ := (hst a w h3 (holds_nil a) h4).steps C.b ops i r k C.cs rfl h5.1 (wanted_none rfl _)
    have hd' : d < a.tmps.size := by rw [h1]; exact Nat.blt_eq.mp hd
    exact J.steps hs (h v M' L' hK _ w' r (by rw [put_size]; exact h1) (by rw [put_defers]; exact h2) (h3.put hd' hn hu v) hp h5.2)

theorem runL_op0 {op : Op} {ty : TypeId} {pos : String} {aft : Array Edge} {l : List Oper} {K : Value → Mem → HL → Prop}
    (hst : St P C.b.roundOf ⟨none, op, ty, pos, aft, none⟩ σ δ [] M L K)
    (h : ∀ v M' L', K v M' L' → RunL P C n ops l k ds σ δ M' L') : RunL P C n ops (⟨none, op, ty, pos, aft, none⟩ :: l) k ds σ δ M L := fun a w idx h1 h2 h3 h4 h5 => by
  cases idx with
  | nil => simp at h5
  | cons i r =>
    simp only [List.map_cons, List.cons.injEq] at h5
    obtain ⟨v, w', ⟨M', L', hp, hK⟩, hs⟩ := (hst a w h3 (holds_nil a) h4).steps C.b ops i r k C.cs rfl h5.1 (wanted_none rfl _)
    exact J.steps hs (h v M' L' hK _ w' r h1 h2 h3 hp h5.2)

/-- a quiet operation -/
theorem runL_q {d : Nat} {op : Op} {ty : TypeId} {pos : String} {aft : Array Edge} {l : List Oper} {v : Value}
    (hst : Qt P C.b.roundOf ⟨some d, op, ty, pos, aft, none⟩ σ δ [] M L v) (hd : Nat.blt d n = true) (hn : lkd δ d = none) (hu : unNamed δ d = true)
    (h : RunL P C n ops l k ds ((d, v) :: σ) δ M L) : RunL P C n ops (⟨some d, op, ty, pos, aft, none⟩ :: l) k ds σ δ M L :=
  runL_op hst hd hn hu fun v' M' L' ⟨e1, e2, e3⟩ => by subst e1 e2 e3; exact h

/-- the slot of an operation, and what is known of it -/
def slotOf (ops : Array Oper) (j : Nat) : Option Nat := (ops[j]?).bind (·.dst)
def lkg (σ : Env) (δ : Den) (s : Nat) : Option (Path × Value) :=
  match lkd δ s with
  | some x => some x
  | none => match lks σ s with | some v => some ([], v) | none => none
def unP (p : Path) (d : Nat) : Bool := match p.any (fun x => Nat.beq x.1 d) with | true => false | false => true
theorem unP_sound {p : Path} {d : Nat} (h : unP p d = true) : ∀ x ∈ p, x.1 ≠ d := fun x hx e => by
  unfold unP at h
  have : p.any (fun x => Nat.beq x.1 d) = true := List.any_eq_true.2 ⟨x, hx, by rw [e]; exact Nat.beq_refl d⟩
  rw [this] at h; cases h

theorem lkg_sound {a : Act} (hs : Sees σ δ a) {s : Nat} {p : Path} {v : Value} (h : lkg σ δ s = some (p, v)) :
    (holds a p → a.tmps[s]? = some v) ∧ (¬ holds a p → a.tmps[s]? = some undef) := by
  unfold lkg at h
  split at h
  · rename_i x e
    cases h; exact hs.d _ _ _ e
  · split at h
    · rename_i v' e
      cases h; exact ⟨fun _ => hs.s _ _ e, fun hn => absurd (holds_nil a) hn⟩
    · cases h

theorem yielded_some {a : Act} {j s : Nat} {b : Bool} (hj : slotOf ops j = some s) : (yielded ops a.tmps j = some b) ↔ a.tmps[s]? = some (.bool b) := by
  unfold slotOf at hj
  unfold yielded
  rw [hj]
  simp only [Option.bind_some]
  cases a.tmps[s]? with
  | none => simp
  | some v => cases v <;> simp

theorem beq_some_bool {x : Option Bool} {b : Bool} : ((x == some b) = true) ↔ x = some b := by cases x <;> simp

/-- a quiet operation under a guard -/
theorem runL_g {d : Nat} {op : Op} {ty : TypeId} {pos : String} {aft : Array Edge} {l : List Oper} {v : Value} {j s : Nat} {want c : Bool} {p : Path}
    (hj : slotOf ops j = some s) (hg : lkg σ δ s = some (p, .bool c))
    (hst : Qt P C.b.roundOf ⟨some d, op, ty, pos, aft, some (j, want)⟩ σ δ ((s, want) :: p) M L v) (hd : Nat.blt d n = true) (hn : lkd δ d = none) (hsd : lks σ d = none) (hu : unNamed δ d = true) (hp : unP ((s, want) :: p) d = true)
    (h : RunL P C n ops l k ds σ ((d, (s, want) :: p, v) :: δ) M L) : RunL P C n ops (⟨some d, op, ty, pos, aft, some (j, want)⟩ :: l) k ds σ δ M L := fun a w idx h1 h2 h3 h4 h5 => by
  cases idx with
  | nil => simp at h5
  | cons i r =>
    simp only [List.map_cons, List.cons.injEq] at h5
    have hd' : d < a.tmps.size := by rw [h1]; exact Nat.blt_eq.mp hd
    have hgs := lkg_sound h3 hg
    by_cases hw : a.tmps[s]? = some (.bool want)
    · have hpp : holds a p := by
        apply Classical.byContradiction
        intro hnp
        have := hgs.2 hnp
        rw [hw] at this; simp [undef] at this
      have hcur : holds a ((s, want) :: p) := fun x hx => by
        rcases List.mem_cons.1 hx with rfl | hx
        · exact hw
        · exact hpp x hx
      have hwant : Region.wanted ⟨some d, op, ty, pos, aft, some (j, want)⟩ (yielded ops a.tmps) = true := by
        simp only [Region.wanted]; exact beq_some_bool.2 ((yielded_some hj).2 hw)
      obtain ⟨v', w', ⟨M', L', hp', e1, e2, e3⟩, hs⟩ := (hst a w h3 hcur h4).steps C.b ops i r k C.cs rfl h5.1 hwant
      subst e1 e2 e3
      exact J.steps hs (h _ w' r (by rw [put_size]; exact h1) (by rw [put_defers]; exact h2) (h3.putG hd' hn hsd hu (unP_sound hp) ⟨fun _ => rfl, fun hx => absurd hcur hx⟩) hp' h5.2)
    · have hnw : Region.wanted ⟨some d, op, ty, pos, aft, some (j, want)⟩ (yielded ops a.tmps) = false := by
        cases hx : Region.wanted ⟨some d, op, ty, pos, aft, some (j, want)⟩ (yielded ops a.tmps) with
        | false => rfl
        | true => simp only [Region.wanted] at hx; exact absurd ((yielded_some hj).1 (beq_some_bool.1 hx)) hw
      have hstep := stepR_op_skip (P := P) (b := C.b) (a := a) (k := k) (cs := C.cs) (w := w) (ops := ops) (i := i) (rest := r) (by rw [h5.1]; simpa using hnw)
      rw [h5.1] at hstep
      refine J.step hstep (h _ w r (by rw [put_size]; exact h1) (by rw [put_defers]; exact h2) (h3.putG hd' hn hsd hu (unP_sound hp) ⟨fun hx => absurd (hx (s, want) (by simp)) hw, fun _ => rfl⟩) h4 h5.2)

/-- an operation under a guard that is known to be met -/
theorem runL_gT {d : Nat} {op : Op} {ty : TypeId} {pos : String} {aft : Array Edge} {l : List Oper} {K : Value → Mem → HL → Prop} {j s : Nat} {want : Bool}
    (hj : slotOf ops j = some s) (hg : knows σ s want = true)
    (hst : St P C.b.roundOf ⟨some d, op, ty, pos, aft, some (j, want)⟩ σ δ [] M L K) (hd : Nat.blt d n = true) (hn : lkd δ d = none) (hu : unNamed δ d = true)
    (h : ∀ v M' L', K v M' L' → RunL P C n ops l k ds ((d, v) :: σ) δ M' L') : RunL P C n ops (⟨some d, op, ty, pos, aft, some (j, want)⟩ :: l) k ds σ δ M L := fun a w idx h1 h2 h3 h4 h5 => by
  cases idx with
  | nil => simp at h5
  | cons i r =>
    simp only [List.map_cons, List.cons.injEq] at h5
    have hwant : Region.wanted ⟨some d, op, ty, pos, aft, some (j, want)⟩ (yielded ops a.tmps) = true := by
      simp only [Region.wanted]; exact beq_some_bool.2 ((yielded_some hj).2 (knows_sound h3 hg))
    obtain ⟨v, w', ⟨M', L', hp, hK⟩, hs⟩ := (hst a w h3 (holds_nil a) h4).steps C.b ops i r k C.cs rfl h5.1 hwant
    have hd' : d < a.tmps.size := by rw [h1]; exact Nat.blt_eq.mp hd
    exact J.steps hs (h v M' L' hK _ w' r (by rw [put_size]; exact h1) (by rw [put_defers]; exact h2) (h3.put hd' hn hu v) hp h5.2)

/-- an operation under a guard that is known to fail -/
theorem runL_gF {d : Nat} {op : Op} {ty : TypeId} {pos : String} {aft : Array Edge} {l : List Oper} {j s : Nat} {want : Bool}
    (hj : slotOf ops j = some s) (hg : knows σ s (!want) = true) (hd : Nat.blt d n = true) (hn : lkd δ d = none) (hu : unNamed δ d = true)
    (h : RunL P C n ops l k ds ((d, undef) :: σ) δ M L) : RunL P C n ops (⟨some d, op, ty, pos, aft, some (j, want)⟩ :: l) k ds σ δ M L := fun a w idx h1 h2 h3 h4 h5 => by
  cases idx with
  | nil => simp at h5
  | cons i r =>
    simp only [List.map_cons, List.cons.injEq] at h5
    have hk := knows_sound h3 hg
    have hnw : Region.wanted ⟨some d, op, ty, pos, aft, some (j, want)⟩ (yielded ops a.tmps) = false := by
      cases hx : Region.wanted ⟨some d, op, ty, pos, aft, some (j, want)⟩ (yielded ops a.tmps) with
      | false => rfl
      | true =>
        simp only [Region.wanted] at hx
        have := (yielded_some hj).1 (beq_some_bool.1 hx)
        rw [hk] at this; injection this with this; injection this with this; cases want <;> simp at this
    have hd' : d < a.tmps.size := by rw [h1]; exact Nat.blt_eq.mp hd
    have hstep := stepR_op_skip (P := P) (b := C.b) (a := a) (k := k) (cs := C.cs) (w := w) (ops := ops) (i := i) (rest := r) (by rw [h5.1]; simpa using hnw)
    rw [h5.1] at hstep
    exact J.step hstep (h _ w r (by rw [put_size]; exact h1) (by rw [put_defers]; exact h2) (h3.put hd' hn hu undef) h4 h5.2)

/-- a slot's bool becomes known -/
theorem runL_known {l : List Oper} (s : Nat) (b : Bool) {c : Bool} (hs : lks σ s = some (.bool c)) (hc : c = b) (h : RunL P C n ops l k ds ((s, .bool b) :: σ) δ M L) : RunL P C n ops l k ds σ δ M L :=
  fun a w idx h1 h2 h3 h4 h5 => h a w idx h1 h2 ⟨fun t v e => by
    rw [lks_cons] at e
    split at e
    · rename_i he; cases e; subst he; subst hc; exact h3.s _ _ hs
    · exact h3.s _ _ e, h3.d⟩ h4 h5

/-- what is known under a path that holds is known -/
theorem runL_lift {l : List Oper} (t : Nat) {v : Value} (hs : lka σ δ [] t = some v) (h : RunL P C n ops l k ds ((t, v) :: σ) δ M L) : RunL P C n ops l k ds σ δ M L :=
  fun a w idx h1 h2 h3 h4 h5 => h a w idx h1 h2 ⟨fun t' v' e => by
    rw [lks_cons] at e
    split at e
    · rename_i he; cases e; subst he; exact lka_sound h3 (holds_nil a) hs
    · exact h3.s _ _ e, h3.d⟩ h4 h5

/-- less is known of the slots -/
theorem runL_sub {l : List Oper} (σ' : Env) (hs : subE σ σ') (h : RunL P C n ops l k ds σ' δ M L) : RunL P C n ops l k ds σ δ M L :=
  fun a w idx h1 h2 h3 h4 h5 => h a w idx h1 h2 ⟨fun t v e => h3.s t v (subE_sound hs t v e), h3.d⟩ h4 h5
end

end Go.Chi
