import Derived.Test.YtemiflllckincaaLgQ
namespace Go.Chi
section
variable {P : Program} {C : Cx} {n : Nat} {k : List Item} {ds : List Deferred} {σ : Env} {δ : Den} {M : Mem} {L : HL} {ops : Array Oper} {D X : List Nat}

/-- a slot's bool becomes known -/
theorem Sees.known {a : Act} (h : Sees σ δ a) {s : Nat} {b c : Bool} (hs : lks σ s = some (.bool c)) (hc : c = b) : Sees ((s, .bool b) :: σ) δ a :=
  ⟨fun t v e => by
    rw [lks_cons] at e
    split at e
    · rename_i he; cases e; subst he; subst hc; exact h.s _ _ hs
    · exact h.s _ _ e, h.d⟩
theorem pr_known (s : Nat) (b : Bool) {c : Bool} (hs : lks σ s = some (.bool c)) (hc : c = b) (h : PR P C n ops k ds D X ((s, .bool b) :: σ) δ M L) : PR P C n ops k ds D X σ δ M L :=
  fun a â w listed fuel t hst => h a â w listed fuel t { hst with sees := hst.sees.known hs hc }
/-- any value becomes known in another form -/
theorem Sees.asV {a : Act} (h : Sees σ δ a) {s : Nat} {u v : Value} (hs : lks σ s = some u) (hc : u = v) : Sees ((s, v) :: σ) δ a :=
  ⟨fun t v e => by
    rw [lks_cons] at e
    split at e
    · rename_i he; cases e; subst he; subst hc; exact h.s _ _ hs
    · exact h.s _ _ e, h.d⟩
theorem pr_as (s : Nat) (v : Value) {u : Value} (hs : lks σ s = some u) (hc : u = v) (h : PR P C n ops k ds D X ((s, v) :: σ) δ M L) : PR P C n ops k ds D X σ δ M L :=
  fun a â w listed fuel t hst => h a â w listed fuel t { hst with sees := hst.sees.asV hs hc }
theorem runL_as {l : List Oper} (s : Nat) (v : Value) {u : Value} (hs : lks σ s = some u) (hc : u = v) (h : RunL P C n ops l k ds ((s, v) :: σ) δ M L) : RunL P C n ops l k ds σ δ M L :=
  fun a w idx h1 h2 h3 h4 h5 => h a w idx h1 h2 (h3.asV hs hc) h4 h5
theorem run_as (s : Nat) (v : Value) {u : Value} (hs : lks σ s = some u) (hc : u = v) (h : Run P C n k ds ((s, v) :: σ) M L) : Run P C n k ds σ M L :=
  fun a w h1 h2 h3 h4 => h a w h1 h2 (h3.asV hs hc) h4
/-- a quiet operation whose guard is known to hold -/
theorem pr_gK (i : Nat) {d : Nat} {op : Op} {ty : TypeId} {pos : String} {aft : Array Edge} {v : Value} {j s : Nat} {want : Bool} (hchk : chkQ ops D i = true) (ho : ops[i]? = some ⟨some d, op, ty, pos, aft, some (j, want)⟩)
    (hj : slotOf ops j = some s) (hg : knows σ s want = true)
    (hq : Qt P C.b.roundOf ⟨some d, op, ty, pos, aft, some (j, want)⟩ σ δ [] M L v) (hd : Nat.blt d n = true) (hn : lkd δ d = none) (hu : unNamed δ d = true)
    (h : PR P C n ops k ds (i :: D) X ((d, v) :: σ) δ M L) : PR P C n ops k ds D X σ δ M L := fun a â w listed fuel t hst => by
  have hsl : slotOf ops i = some d := by rw [slot_of (d := d) ho]
  have hd' := Nat.blt_eq.mp hd
  have hdn : d < â.tmps.size := by rw [hst.hn]; exact hd'
  obtain ⟨hpl, hself⟩ := chkQ_parts hchk hsl
  have hlk : looks ops i = Oper.looksAt ops ⟨some d, op, ty, pos, aft, some (j, want)⟩ := by unfold looks; rw [ho]
  have hpl' : plainOp op = true := by unfold plainAt at hpl; rw [ho] at hpl; exact hpl
  have hw := knows_sound hst.sees hg
  have hag := self_agree (ops := ops) (i := i) hdn hself v
  have hwant : Region.wanted ⟨some d, op, ty, pos, aft, some (j, want)⟩ (yielded ops (â.put (some d) v).tmps) = true := by
    rw [wanted_agree (ops := ops) (a' := â) (by rw [← hlk]; exact hag)]
    simp only [Region.wanted]; exact beq_some_bool.2 ((yielded_some hj).2 hw)
  refine h a (â.put (some d) v) w listed fuel t (hst.add hchk hsl hd' (hst.sees.put hdn hn hu v) ?_)
  refine ⟨_, d, ho, rfl, hpl', fun _ => ⟨v, by rw [put_get hdn, if_pos rfl], fun w' hw' => ?_⟩, fun hx => by rw [hwant] at hx; cases hx⟩
  have := hq â w' hst.sees (holds_nil _) hw'
  have := this.mono (K' := fun u w' => u = v ∧ Hp M L w') fun u w'' ⟨M', L', h1, h2, h3, h4⟩ => ⟨h2, by subst h3 h4; exact h1⟩
  unfold OpWp at this ⊢
  rw [sem_agree (ops := ops) (a := â.put (some d) v) (a' := â) hpl' (by rw [← hlk]; exact hag)]
  exact this
theorem prn_gK {i d : Nat} {op : Op} {ty : TypeId} {pos : String} {aft : Array Edge} {v : Value} {j s : Nat} {want : Bool} (ho : ops[i]? = some ⟨some d, op, ty, pos, aft, some (j, want)⟩)
    (hj : slotOf ops j = some s) (hg : knows σ s want = true)
    (hq : Qt P C.b.roundOf ⟨some d, op, ty, pos, aft, some (j, want)⟩ σ δ [] M L v) (hchk : chkQ ops (dn i) i = true) (hd : Nat.blt d n = true) (hn : lkd δ d = none) (hu : unNamed δ d = true)
    (h : PR P C n ops k ds (dn (i + 1)) X ((d, v) :: σ) δ M L) : PR P C n ops k ds (dn i) X σ δ M L := pr_gK i hchk ho hj hg hq hd hn hu h
/-- the same in a region in the order of the text -/
theorem runL_gK {d : Nat} {op : Op} {ty : TypeId} {pos : String} {aft : Array Edge} {l : List Oper} {v : Value} {j s : Nat} {want : Bool}
    (hj : slotOf ops j = some s) (hg : knows σ s want = true)
    (hst : Qt P C.b.roundOf ⟨some d, op, ty, pos, aft, some (j, want)⟩ σ δ [] M L v) (hd : Nat.blt d n = true) (hn : lkd δ d = none) (hu : unNamed δ d = true)
    (h : RunL P C n ops l k ds ((d, v) :: σ) δ M L) : RunL P C n ops (⟨some d, op, ty, pos, aft, some (j, want)⟩ :: l) k ds σ δ M L :=
  runL_gT hj hg hst hd hn hu fun v' M' L' ⟨e1, e2, e3⟩ => by subst e1 e2 e3; exact h
end
theorem SrcG.ofSlM {M : Mem} {L : HL} {size : Nat} {a : Option Addr} {n c : Nat} {ls : List (List Value)} (h : SlM M size a n ls) : SrcG M L size (.slice a n c) n ls.flatten := by
  obtain ⟨h1, h2, h3⟩ := h
  have flen : ∀ (l : List (List Value)), (∀ x ∈ l, x.length = size) → l.flatten.length = l.length * size := by
    intro l hl'
    induction l with
    | nil => simp
    | cons x l ih => rw [List.flatten_cons, List.length_append, hl' x (by simp), ih (fun y hy => hl' y (List.mem_cons_of_mem _ hy)), List.length_cons, Nat.add_mul]; omega
  rcases h3 with rfl | ⟨b, off, rfl, hcell⟩
  · simp only [List.length_nil] at h1
    subst h1
    exact .inl ⟨a, c, rfl, rfl, rfl⟩
  · by_cases h0 : n = 0
    · subst h0
      have : ls = [] := List.length_eq_zero_iff.1 h1
      subst this
      exact .inl ⟨_, c, rfl, rfl, rfl⟩
    · refine .inr ⟨b, off, c, rfl, ?_, by rw [flen ls h2, h1]⟩
      -- one block holds them all
      have hpos : 0 < ls.length := by omega
      obtain ⟨cs, t, fz, hb, _⟩ := hcell 0 _ (List.getElem?_eq_getElem hpos)
      have hb' : M.blk b = some (.cells cs t fz) := by
        rcases hb with hb | hb
        · cases hb
        · exact hb
      refine ⟨cs, t, fz, .inr hb', fun i v hv => ?_⟩
      have hsz : 0 < size := by
        rcases Nat.eq_zero_or_pos size with h | h
        · subst h
          have := (List.getElem?_eq_some_iff.1 hv).1
          rw [flen ls h2] at this
          simp at this
        · exact h
      have hil : i < ls.length * size := by have := (List.getElem?_eq_some_iff.1 hv).1; rwa [flen ls h2] at this
      have hq : i / size < ls.length := (Nat.div_lt_iff_lt_mul hsz).2 hil
      have hm : i % size < size := Nat.mod_lt _ hsz
      have hlen := h2 _ (List.getElem_mem hq)
      have h4 := flat_at h2 (List.getElem?_eq_getElem hq) (List.getElem?_eq_getElem (show i % size < (ls[i / size]).length by omega))
      rw [Nat.mul_comm, Nat.div_add_mod, hv] at h4
      obtain ⟨cs', t', fz', hb2, hc2⟩ := hcell (i / size) _ (List.getElem?_eq_getElem hq)
      have hb2' : M.blk b = some (.cells cs' t' fz') := by
        rcases hb2 with hb2 | hb2
        · cases hb2
        · exact hb2
      rw [hb'] at hb2'
      injection hb2' with e
      injection e with e1
      have h5 := hc2 (i % size) v (by rw [List.getElem?_eq_getElem (show i % size < (ls[i / size]).length by omega)]; exact h4.symm)
      rw [← e1] at h5
      rw [← h5]
      congr 1
      have := Nat.div_add_mod i size
      rw [Nat.mul_comm] at this
      omega
end Go.Chi
