import Derived.Test.YtemiflllckincaaLgF
import Derived.Laws.CopyRow
namespace Go.Chi

/-! ### memory -/
def Blk (M : Mem) (L : HL) (b : Nat) (o : Obj) : Prop := (b, o) ∈ L ∨ M.blk b = some o
theorem Hp.at_ {M : Mem} {L : HL} {w : World} (h : Hp M L w) {b : Nat} {o : Obj} (hb : Blk M L b o) : w.heap[b]? = some o := by
  rcases hb with hb | hb
  · exact h.own _ hb
  · exact h.blk _ _ hb

/-- the cells from off on are vs -/
def Cells (M : Mem) (L : HL) (b off : Nat) (vs : List Value) : Prop := ∃ cs t fz, Blk M L b (.cells cs t fz) ∧ ∀ i v, vs[i]? = some v → cs[off + i]? = some v

theorem cells1 {M : Mem} {L : HL} {b off : Nat} {cs : List Value} {t : TypeId} {fz : Nat × Nat} {v : Value} (hm : (b, Obj.cells ⟨cs⟩ t fz) ∈ L) (hv : cs[off]? = some v) : Cells M L b off [v] :=
  ⟨⟨cs⟩, t, fz, .inl hm, fun i u hu => by
    cases i with
    | zero => simp at hu; subst hu; simpa using hv
    | succ i => simp at hu⟩
theorem cellsAll {M : Mem} {L : HL} {b : Nat} {cs : List Value} {t : TypeId} {fz : Nat × Nat} (hm : (b, Obj.cells ⟨cs⟩ t fz) ∈ L) : Cells M L b 0 cs :=
  ⟨⟨cs⟩, t, fz, .inl hm, fun i u hu => by simpa using hu⟩
theorem cellsSeg {M : Mem} {L : HL} {b off n : Nat} {cs : List Value} {t : TypeId} {fz : Nat × Nat} (hm : (b, Obj.cells ⟨cs⟩ t fz) ∈ L) : Cells M L b off (seg cs off n) :=
  ⟨⟨cs⟩, t, fz, .inl hm, fun i u hu => by
    unfold seg at hu
    rw [List.getElem?_take] at hu
    split at hu
    · simpa using hu
    · cases hu⟩
theorem Cells.mono {M M' : Mem} {L L' : HL} {b off : Nat} {vs : List Value} (h : Cells M L b off vs) (hb : ∀ o, Blk M L b o → Blk M' L' b o) : Cells M' L' b off vs := by
  obtain ⟨cs, t, fz, h1, h2⟩ := h
  exact ⟨cs, t, fz, hb _ h1, h2⟩
theorem Cells.sub {M : Mem} {L : HL} {b off : Nat} {vs : List Value} (h : Cells M L b off vs) {k n : Nat} : Cells M L b (off + k) (seg vs k n) := by
  obtain ⟨cs, t, fz, h1, h2⟩ := h
  refine ⟨cs, t, fz, h1, fun i v hv => ?_⟩
  unfold seg at hv
  rw [List.getElem?_take] at hv
  split at hv
  · rw [List.getElem?_drop] at hv; rw [Nat.add_assoc]; exact h2 _ _ hv
  · cases hv
theorem Cells.one {M : Mem} {L : HL} {b off : Nat} {vs : List Value} (h : Cells M L b off vs) {k : Nat} {v : Value} (hv : vs[k]? = some v) : Cells M L b (off + k) [v] := by
  obtain ⟨cs, t, fz, h1, h2⟩ := h
  refine ⟨cs, t, fz, h1, fun i u hu => ?_⟩
  cases i with
  | zero => simp at hu; subst hu; simpa using h2 _ _ hv
  | succ i => simp at hu

theorem Cells.cell {M : Mem} {L : HL} {w : World} (h : Hp M L w) {b off : Nat} {vs : List Value} (hc : Cells M L b off vs) {i : Nat} {v : Value} (hv : vs[i]? = some v) : w.cell? ⟨b, off + i, none⟩ = some v := by
  obtain ⟨cs, t, fz, h1, h2⟩ := hc
  simp [World.cell?, h.at_ h1, h2 i v hv]

section
variable {P : Program} {T : TT} {ro : Option Nat} {σ : Env} {δ : Den} {cur : Path} {M : Mem} {L : HL} {d : Option Nat} {op : Op} {ty : TypeId} {pos : String} {aft : Array Edge} {g : Option (Nat × Bool)} {v : Value}

theorem run_loadCells {w : World} (h : Hp M L w) {b off : Nat} : ∀ (vs pre : List Value), Cells M L b off (pre ++ vs) → (loadCellsFrom ⟨b, off, none⟩ pre.length vs.length ⟨pre⟩).run P w = .ok ⟨pre ++ vs⟩ w
  | [], pre, _ => by simp [loadCellsFrom]
  | v :: vs, pre, hc => by
    have hcell := hc.cell h (i := pre.length) (v := v) (by simp)
    simp only [List.length_cons, loadCellsFrom, Sem.run_bind, run_load, add_none, hcell, Result.andThen_ok]
    have := run_loadCells h vs (pre ++ [v]) (by simpa using hc)
    simpa using this

theorem run_loadVar1 (hT : TOk P T) {w : World} (h : Hp M L w) {b off : Nat} {t : TypeId} (ha : aggT T t = some false) (hc : Cells M L b off [v]) : (loadVar t ⟨b, off, none⟩).run P w = .ok v w := by
  have := hc.cell h (i := 0) (v := v) (by simp)
  simp only [Nat.add_zero] at this
  simp [loadVar, run_agg hT ha, this]
theorem run_loadVarA (hT : TOk P T) {w : World} (h : Hp M L w) {b off : Nat} {t : TypeId} {s : Nat} {vs : List Value} (ha : aggT T t = some true) (hi : sizeT T t = some s) (hc : Cells M L b off vs) (hl : vs.length = s) : (loadVar t ⟨b, off, none⟩).run P w = .ok (.agg ⟨vs⟩) w := by
  have := run_loadCells (P := P) h vs [] (by simpa using hc)
  simp only [List.length_nil, List.nil_append] at this
  simp only [loadVar, Sem.run_bind, run_agg hT ha, Result.andThen_ok, if_true, run_sizeT hT hi, loadCells, ← hl, this, Sem.run_pure]

theorem qt_load (hT : TOk P T) {t : TypeId} {x : Operand} {b off : Nat} (hx : ev σ δ cur x = some (.pointer (some ⟨b, off, none⟩))) (ha : aggT T t = some false) (hc : Cells M L b off [v]) :
    Qt P ro ⟨d, .load t x, ty, pos, aft, g⟩ σ δ cur M L v :=
  qt_of_run (semAt_of (by intro c e; cases e)) fun a w hs hcur hp => by
    simp [execOp, Instr.loadAt, ev_sound hs hcur hx, Instr.sureAddr, run_loadVar1 hT hp ha hc]
theorem qt_loadA (hT : TOk P T) {t : TypeId} {x : Operand} {b off s : Nat} {vs : List Value} (hx : ev σ δ cur x = some (.pointer (some ⟨b, off, none⟩))) (ha : aggT T t = some true) (hi : sizeT T t = some s) (hc : Cells M L b off vs) (hl : vs.length = s) :
    Qt P ro ⟨d, .load t x, ty, pos, aft, g⟩ σ δ cur M L (.agg ⟨vs⟩) :=
  qt_of_run (semAt_of (by intro c e; cases e)) fun a w hs hcur hp => by
    simp [execOp, Instr.loadAt, ev_sound hs hcur hx, Instr.sureAddr, run_loadVarA hT hp ha hi hc hl]

/-! ### a store -/
def oneL : List Value → Bool
  | [] => true
  | v :: vs => match v.oneCell' with | true => oneL vs | false => false
theorem oneL_ok : ∀ {vs : List Value}, oneL vs = true → ∀ v ∈ vs, v.oneCell' = true
  | [], _, v, hv => by cases hv
  | u :: vs, h, v, hv => by
    simp only [oneL] at h
    split at h
    · rename_i hu
      rcases List.mem_cons.1 hv with rfl | hv
      · exact hu
      · exact oneL_ok h v hv
    · cases h

theorem Hp.setRow {w : World} (h : Hp M L w) {b : Nat} {cs cs' : List Value} {t : TypeId} {fz : Nat × Nat} {L' : HL} (hu : Upd L b (.cells ⟨cs⟩ t fz) (.cells ⟨cs'⟩ t fz) L') : Hp M L' (w.setRow b ⟨cs'⟩) := by
  have hb := h.own _ hu.mem
  refine h.upd hu rfl rfl rfl ?_ ?_
  · exact setRow_heap w b ⟨cs⟩ _ t fz hb
  · intro k hk
    simp only [World.setRow, Array.getElem?_modify]
    rw [if_neg (by omega)]

theorem st_store (hT : TOk P T) {t : TypeId} {x y : Operand} {b off s : Nat} {cs cs' : List Value} {et : TypeId} {L' : HL}
    (hx : ev σ δ cur x = some (.pointer (some ⟨b, off, none⟩))) (hy : ev σ δ cur y = some v) (hi : sizeT T t = some s) (hl : (cellsL v).length = s) (h1 : oneL (cellsL v) = true)
    (hu : Upd L b (.cells ⟨cs⟩ et (0, 0)) (.cells ⟨cs'⟩ et (0, 0)) L') (hcs : setE cs off (cellsL v) = some cs') :
    St P ro ⟨d, .store t x y, ty, pos, aft, g⟩ σ δ cur M L (fun v' M' L'' => v' = undef ∧ M = M' ∧ L'' = L') := fun a w hs hcur hp => by
  obtain ⟨hcs, hle⟩ := setE_ok hcs
  refine opWp_skip (w' := w.setRow b ⟨cs'⟩) ?_ ⟨M, L', hp.setRow hu, rfl, rfl, rfl⟩
  rw [semAt_of (by intro c e; cases e)]
  have hrun := run_storeCells_at (P := P) b off et (cellsL v) 0 ⟨cs⟩ w (hp.own _ hu.mem) (by simpa using hle) (oneL_ok h1)
  simp only [Nat.add_zero] at hrun
  have hsz : v.cells.size = s := by rw [cellsL_eq]; exact hl
  simp only [execOp, Instr.storeAt, ev_sound hs hcur hx, ev_sound hs hcur hy, Instr.sureAddr, Sem.run_bind, Sem.run_pure, Result.andThen_ok, storeVar, run_sizeT hT hi, hsz, ne_eq, not_true_eq_false, Sem.run_ite, if_false]
  rw [show v.cells.toList = cellsL v from by rw [cellsL_eq]]
  rw [hrun]
  simp only [Result.andThen_ok]
  rw [hcs]
  simp [setSeg]

theorem setSeg_all {cs vs : List Value} (h : cs.length = vs.length) : setSeg cs 0 vs = vs := by simp [setSeg, ← h]

/-- what is loaded of a block whose cells are known -/
def ldE (T : TT) (t : Nat) (cs : List Value) (off : Nat) : Option Value := partL T t cs off
theorem run_ldE (hT : TOk P T) {w : World} (h : Hp M L w) {b off : Nat} {t : TypeId} {cs : List Value} {et : TypeId} {fz : Nat × Nat} (hm : Blk M L b (.cells ⟨cs⟩ et fz)) (hv : ldE T t cs off = some v) : (loadVar t ⟨b, off, none⟩).run P w = .ok v w := by
  have hc : Cells M L b 0 cs := ⟨⟨cs⟩, et, fz, hm, fun i u hu => by simpa using hu⟩
  unfold ldE partL at hv
  split at hv
  · rename_i ha
    split at hv
    · rename_i s hs
      split at hv
      · rename_i vs hvs
        cases hv
        obtain ⟨rfl, hle⟩ := segE_ok hvs
        have := hc.sub (k := off) (n := s)
        rw [Nat.zero_add] at this
        refine run_loadVarA hT h ha hs this ?_
        simp [seg]; omega
      · cases hv
    · cases hv
  · rename_i ha
    have := hc.one hv
    rw [Nat.zero_add] at this
    exact run_loadVar1 hT h ha this
  · cases hv
theorem qt_ld (hT : TOk P T) {t : TypeId} {x : Operand} {b off : Nat} {cs : List Value} {et : TypeId} {fz : Nat × Nat} (hx : ev σ δ cur x = some (.pointer (some ⟨b, off, none⟩))) (hm : (b, Obj.cells ⟨cs⟩ et fz) ∈ L) (hv : ldE T t cs off = some v) :
    Qt P ro ⟨d, .load t x, ty, pos, aft, g⟩ σ δ cur M L v :=
  qt_of_run (semAt_of (by intro c e; cases e)) fun a w hs hcur hp => by
    simp [execOp, Instr.loadAt, ev_sound hs hcur hx, Instr.sureAddr, run_ldE hT hp (.inl hm) hv]
/-- a part of an element that is known for good -/
theorem qt_ldM (hT : TOk P T) {t : TypeId} {x : Operand} {b off k : Nat} {cs : List Value} (hx : ev σ δ cur x = some (.pointer (some ⟨b, off + k, none⟩))) (hc : Cells M [] b off cs) (hv : ldE T t cs k = some v) :
    Qt P ro ⟨d, .load t x, ty, pos, aft, g⟩ σ δ cur M L v :=
  qt_of_run (semAt_of (by intro c e; cases e)) fun a w hs hcur hp => by
    have hc' : Cells M L b off cs := hc.mono fun o ho => by
      rcases ho with ho | ho
      · cases ho
      · exact .inr ho
    have : (loadVar t ⟨b, off + k, none⟩).run P w = .ok v w := by
      unfold ldE partL at hv
      split at hv
      · rename_i ha
        split at hv
        · rename_i s hs
          split at hv
          · rename_i vs hvs
            cases hv
            obtain ⟨rfl, hle⟩ := segE_ok hvs
            refine run_loadVarA hT hp ha hs hc'.sub ?_
            simp [seg]; omega
          · cases hv
        · cases hv
      · rename_i ha
        exact run_loadVar1 hT hp ha (hc'.one hv)
      · cases hv
    simp [execOp, Instr.loadAt, ev_sound hs hcur hx, Instr.sureAddr, this]
/-- the whole of it -/
theorem qt_ldM0 (hT : TOk P T) {t : TypeId} {x : Operand} {b off : Nat} {cs : List Value} (hx : ev σ δ cur x = some (.pointer (some ⟨b, off, none⟩))) (hc : Cells M [] b off cs) (hv : ldE T t cs 0 = some v) :
    Qt P ro ⟨d, .load t x, ty, pos, aft, g⟩ σ δ cur M L v := qt_ldM (k := 0) hT hx hc hv

/-! ### new blocks -/
theorem st_box {t : TypeId} {x : Operand} (hx : ev σ δ cur x = some v) :
    St P ro ⟨d, .box t x, ty, pos, aft, g⟩ σ δ cur M L (fun v' M' L' => ∃ b, v' = .pointer (some ⟨b, 0, none⟩) ∧ M = M' ∧ L' = (b, .cells ⟨cellsL v⟩ t (0, 0)) :: L) := fun a w hs hcur hp => by
  refine opWp_value (v := .pointer (some ⟨w.heap.size, 0, none⟩)) (w' := { w with heap := w.heap.push (.cells ⟨cellsL v⟩ t (0, 0)) }) ?_ ⟨M, _, hp.push _, _, rfl, rfl, rfl⟩
  rw [semAt_of (by intro c e; cases e)]
  simp [execOp, Instr.box, newVar, newRow, ev_sound hs hcur hx, cellsL_eq]
theorem st_alloc (hT : TOk P T) {t : TypeId} (hz : zeroT T t = some v) :
    St P ro ⟨d, .alloc t, ty, pos, aft, g⟩ σ δ cur M L (fun v' M' L' => ∃ b, v' = .pointer (some ⟨b, 0, none⟩) ∧ M = M' ∧ L' = (b, .cells ⟨cellsL v⟩ t (0, 0)) :: L) := fun a w hs hcur hp => by
  refine opWp_value (v := .pointer (some ⟨w.heap.size, 0, none⟩)) (w' := { w with heap := w.heap.push (.cells ⟨cellsL v⟩ t (0, 0)) }) ?_ ⟨M, _, hp.push _, _, rfl, rfl, rfl⟩
  rw [semAt_of (by intro c e; cases e)]
  simp [execOp, Instr.alloc, newVar, newRow, run_zeroT hT hz, cellsL_eq]

/-! ### operations that ask something of their operands -/
theorem qt_index (hT : TOk P T) {t : TypeId} {x y : Operand} {b off len cap : Nat} {k : IntKind} {n : Int} {e s : Nat}
    (hx : ev σ δ cur x = some (.slice (some ⟨b, off, none⟩) len cap)) (hy : ev σ δ cur y = some (.int k n)) (hu : und T t = some (.slice e)) (hi : sizeT T e = some s) (hb : Hy σ δ cur → 0 ≤ n ∧ n < (len : Int)) :
    Qt P ro ⟨d, .indexAddr t x y, ty, pos, aft, g⟩ σ δ cur M L (.pointer (some ⟨b, off + n.toNat * s, none⟩)) :=
  qt_of_run (semAt_of (by intro c e; cases e)) fun a w hs hcur hp => by
    have h := hb (Hy_of hs hcur)
    simp [execOp, Instr.indexAt, ev_sound hs hcur hx, ev_sound hs hcur hy, asIntOf, run_und hT hu, run_sizeT hT hi, add_none, h]

def ishl (k : IntKind) (x n : Int) : Int := k.wrap (x * 2 ^ (min n.toNat k.bits))
def ishr (k : IntKind) (x n : Int) : Int := x.fdiv (2 ^ (min n.toNat k.bits))
theorem qt_shl {t u : TypeId} {x y : Operand} {k k' : IntKind} {m n : Int} (hx : ev σ δ cur x = some (.int k m)) (hy : ev σ δ cur y = some (.int k' n)) (hb : Hy σ δ cur → 0 ≤ n) :
    Qt P ro ⟨d, .binOp .shl t x y u, ty, pos, aft, g⟩ σ δ cur M L (.int k (ishl k m n)) :=
  qt_of_run (semAt_of (by intro c e; cases e)) fun a w hs hcur hp => by
    have h := hb (Hy_of hs hcur)
    have h' : ¬ n < 0 := by omega
    simp [execOp, eqGuard, binOp, ev_sound hs hcur hx, ev_sound hs hcur hy, Op.shift, h', ishl]
theorem qt_shr {t u : TypeId} {x y : Operand} {k k' : IntKind} {m n : Int} (hx : ev σ δ cur x = some (.int k m)) (hy : ev σ δ cur y = some (.int k' n)) (hb : Hy σ δ cur → 0 ≤ n) :
    Qt P ro ⟨d, .binOp .shr t x y u, ty, pos, aft, g⟩ σ δ cur M L (.int k (ishr k m n)) :=
  qt_of_run (semAt_of (by intro c e; cases e)) fun a w hs hcur hp => by
    have h := hb (Hy_of hs hcur)
    have h' : ¬ n < 0 := by omega
    simp [execOp, eqGuard, binOp, ev_sound hs hcur hx, ev_sound hs hcur hy, Op.shift, h', ishr]
theorem qt_rem {t u : TypeId} {x y : Operand} {k : IntKind} {m n : Int} (hx : ev σ δ cur x = some (.int k m)) (hy : ev σ δ cur y = some (.int k n)) (hb : Hy σ δ cur → n ≠ 0) :
    Qt P ro ⟨d, .binOp .rem t x y u, ty, pos, aft, g⟩ σ δ cur M L (.int k (m.tmod n)) :=
  qt_of_run (semAt_of (by intro c e; cases e)) fun a w hs hcur hp => by
    have h := hb (Hy_of hs hcur)
    simp [execOp, eqGuard, binOp, ev_sound hs hcur hx, ev_sound hs hcur hy, Op.intDiv, h]
theorem qt_quo {t u : TypeId} {x y : Operand} {k : IntKind} {m n : Int} (hx : ev σ δ cur x = some (.int k m)) (hy : ev σ δ cur y = some (.int k n)) (hb : Hy σ δ cur → n ≠ 0) :
    Qt P ro ⟨d, .binOp .quo t x y u, ty, pos, aft, g⟩ σ δ cur M L (.int k (k.wrap (m.tdiv n))) :=
  qt_of_run (semAt_of (by intro c e; cases e)) fun a w hs hcur hp => by
    have h := hb (Hy_of hs hcur)
    simp [execOp, eqGuard, binOp, ev_sound hs hcur hx, ev_sound hs hcur hy, Op.intDiv, h]

/-! ### calls -/
/-- the function's contract -/
def Tr (P : Program) (f : FuncId) (args : List Value) (M : Mem) (L : HL) (K : Value → Mem → HL → Prop) : Prop :=
  (∀ w, (callFunc f ⟨args⟩).run P w = .ok (.enter f ⟨args⟩) w) ∧ ∀ w, Hp M L w → Fn P f ⟨args⟩ w (fun v w' => ∃ M' L', Hp M' L' w' ∧ K v M' L')
def TrQ (P : Program) (f : FuncId) (args : List Value) (M : Mem) (L : HL) (v : Value) : Prop := Tr P f args M L (fun v' M' L' => v' = v ∧ M' = M ∧ L' = L)
theorem Tr.mono {f : FuncId} {args : List Value} {K K' : Value → Mem → HL → Prop} (h : Tr P f args M L K) (hk : ∀ v M' L', K v M' L' → K' v M' L') : Tr P f args M L K' :=
  ⟨h.1, fun w hw => (h.2 w hw).mono fun _ _ ⟨M', L', h1, h2⟩ => ⟨M', L', h1, hk _ _ _ h2⟩⟩

theorem st_callF {f : FuncId} {args : Array Operand} {tys : Array TypeId} {vs : List Value} {K : Value → Mem → HL → Prop} (ha : evs σ δ cur args.toList = some vs) (h : Hy σ δ cur → Tr P f vs M L K) :
    St P ro ⟨d, .call ⟨.value (.func f), args, tys⟩, ty, pos, aft, g⟩ σ δ cur M L K := fun a w hs hcur hp => by
  obtain ⟨h1, h2⟩ := h (Hy_of hs hcur)
  refine opWp_enter (w' := w) ?_ (h2 w hp)
  rw [semAt_of (by intro c e; cases e)]
  have e1 : args.map a.eval = ⟨vs⟩ := by apply Array.ext'; simpa using evs_sound hs hcur ha
  simp only [execOp, resolve, e1, Act.eval, Deferred.ofValue, Sem.run_bind, Sem.run_pure, Result.andThen_ok, invoke]
  simpa using h1 w
theorem st_callV {x : Operand} {f : FuncId} {args : Array Operand} {tys : Array TypeId} {first cap : Array Value} {vs : List Value} {K : Value → Mem → HL → Prop} (hx : ev σ δ cur x = some (.func (.func f) first cap)) (ha : evs σ δ cur args.toList = some vs) (h : Hy σ δ cur → Tr P f (first.toList ++ vs ++ cap.toList) M L K) :
    St P ro ⟨d, .call ⟨.value x, args, tys⟩, ty, pos, aft, g⟩ σ δ cur M L K := fun a w hs hcur hp => by
  obtain ⟨h1, h2⟩ := h (Hy_of hs hcur)
  refine opWp_enter (w' := w) ?_ (h2 w hp)
  rw [semAt_of (by intro c e; cases e)]
  have e1 : args.map a.eval = ⟨vs⟩ := by apply Array.ext'; simpa using evs_sound hs hcur ha
  have e2 : first ++ (⟨vs⟩ : Array Value) ++ cap = ⟨first.toList ++ vs ++ cap.toList⟩ := by apply Array.ext'; simp
  simp only [execOp, resolve, e1, ev_sound hs hcur hx, Deferred.ofValue, Sem.run_bind, Sem.run_pure, Result.andThen_ok, invoke, e2]
  exact h1 w
theorem qt_callF {f : FuncId} {args : Array Operand} {tys : Array TypeId} {vs : List Value} (ha : evs σ δ cur args.toList = some vs) (h : Hy σ δ cur → TrQ P f vs M L v) :
    Qt P ro ⟨d, .call ⟨.value (.func f), args, tys⟩, ty, pos, aft, g⟩ σ δ cur M L v := st_callF ha h
end

/-! ### a function's body -/
def argEnv : Nat → List Value → Env
  | _, [] => []
  | i, v :: vs => (i, v) :: argEnv (i + 1) vs
theorem argEnv_lks : ∀ {vs : List Value} {i t : Nat} {v : Value}, lks (argEnv i vs) t = some v → i ≤ t ∧ vs[t - i]? = some v
  | [], _, _, _, h => by simp [argEnv, lks] at h
  | u :: vs, i, t, v, h => by
    simp only [argEnv] at h
    rw [lks_cons] at h
    split at h
    · rename_i e; cases h; subst e; simp
    · obtain ⟨h1, h2⟩ := argEnv_lks h
      refine ⟨by omega, ?_⟩
      rw [show t - i = (t - (i + 1)) + 1 from by omega]
      simpa using h2

def PhiFn (P : Program) (f : FuncId) (K : Value → Mem → HL → Prop) : Frame → World → Prop := fun fr w => ∃ v M L, Hp M L w ∧ K v M L ∧ fr.fn = f ∧ fr.leaving P w (.returned v)

structure FnCx (P : Program) (f : FuncId) (fn : Func) (K : Value → Mem → HL → Prop) (C : Cx) : Prop where
  fnn : P.funcs[f]? = some fn
  b : C.b.fn = f
  kind : C.b.kind = .normal
  ro : C.b.roundOf = none
  phi : C.Φ = PhiFn P f K

theorem Tr.intro {P : Program} {f : FuncId} {fn : Func} {c : Code} {args : List Value} {M : Mem} {L : HL} {K : Value → Mem → HL → Prop} (n : Nat) (hf : P.funcs[f]? = some fn) (hb : fn.body = some c) (hn : fn.ntmps = n) (hc : ∀ args w, (callFunc f args).run P w = .ok (.enter f args) w)
    (ha : Nat.ble args.length n = true) (h : ∀ C, FnCx P f fn K C → C.b.roundOf = none → Run P C n [.code c] [] (argEnv 0 args) M L) : Tr P f args M L K := by
  refine ⟨fun w => hc _ w, fun w hw cs => ?_⟩
  have ha := Nat.le_of_ble_eq_true ha
  let b : Frame := { (default : Frame) with fn := f, kind := .normal, roundOf := none }
  have hro : b.roundOf = none := rfl
  have henter : Frame.enter P f ⟨args⟩ .normal = b.atR { tmps := ⟨args⟩ ++ Array.replicate (n - args.length) undef, defers := [] } [.code c] := by
    simp [Frame.enter, Frame.atR, hf, hb, hn, b]
  have hrun := h ⟨b, cs, PhiFn P f K⟩ ⟨hf, rfl, rfl, rfl, rfl⟩ rfl { tmps := ⟨args⟩ ++ Array.replicate (n - args.length) undef, defers := [] } w (by simp; omega) rfl
    ⟨fun t v e => by
      obtain ⟨_, h2⟩ := argEnv_lks e
      simp only [Nat.sub_zero] at h2
      have hlt : t < args.length := (List.getElem?_eq_some_iff.1 h2).1
      rw [Array.getElem?_append, if_pos (by simpa using hlt)]
      simpa using h2, fun t p v e => by simp [lkd] at e⟩ hw
  obtain ⟨fr', w', hs, v, M', L', h1, h2, h3, h4⟩ := hrun
  rw [henter]
  exact ⟨v, w', fr', ⟨M', L', h1, h2⟩, hs, h3, h4⟩

/-- what the result variables hold -/
def resTmp (σ : Env) : List ResultVar → Option (List Value)
  | [] => some []
  | .tmp t :: r => match lks σ t with
    | some v => match resTmp σ r with | some vs => some (v :: vs) | none => none
    | none => none
  | .cell _ _ :: _ => none
def resVal : List Value → Value
  | [v] => v
  | vs => .tuple ⟨vs⟩

/-- each result variable's value -/
def ResOk (P : Program) (M : Mem) (L : HL) (σ : Env) : List ResultVar → List Value → Prop
  | [], [] => True
  | .tmp t :: r, v :: vs => lks σ t = some v ∧ ResOk P M L σ r vs
  | .cell a t :: r, v :: vs => (∃ b off, lks σ a = some (.pointer (some ⟨b, off, none⟩)) ∧ ∀ w, Hp M L w → (loadVar t ⟨b, off, none⟩).run P w = .ok v w) ∧ ResOk P M L σ r vs
  | _, _ => False

section
variable {P : Program} {T : TT} {M : Mem} {L : HL} {σ : Env} {rs : List ResultVar} {vs : List Value} {v : Value} {t a b off : Nat}
theorem resN : ResOk P M L σ [] [] := trivial
theorem resT (h : lks σ t = some v) (r : ResOk P M L σ rs vs) : ResOk P M L σ (.tmp t :: rs) (v :: vs) := ⟨h, r⟩
theorem resC (hT : TOk P T) (h : lks σ a = some (.pointer (some ⟨b, off, none⟩))) (ha : aggT T t = some false) (hc : Cells M L b off [v]) (r : ResOk P M L σ rs vs) : ResOk P M L σ (.cell a t :: rs) (v :: vs) :=
  ⟨⟨b, off, h, fun _ hw => run_loadVar1 hT hw ha hc⟩, r⟩
theorem resL (hT : TOk P T) {cs : List Value} {et : TypeId} {fz : Nat × Nat} (h : lks σ a = some (.pointer (some ⟨b, off, none⟩))) (hm : (b, Obj.cells ⟨cs⟩ et fz) ∈ L) (hv : ldE T t cs off = some v) (r : ResOk P M L σ rs vs) : ResOk P M L σ (.cell a t :: rs) (v :: vs) :=
  ⟨⟨b, off, h, fun _ hw => run_ldE hT hw (.inl hm) hv⟩, r⟩
theorem resA (hT : TOk P T) {s : Nat} {us : List Value} (h : lks σ a = some (.pointer (some ⟨b, off, none⟩))) (ha : aggT T t = some true) (hi : sizeT T t = some s) (hc : Cells M L b off us) (hl : us.length = s) (r : ResOk P M L σ rs vs) : ResOk P M L σ (.cell a t :: rs) (.agg ⟨us⟩ :: vs) :=
  ⟨⟨b, off, h, fun _ hw => run_loadVarA hT hw ha hi hc hl⟩, r⟩
end

def resM (tmps : Array Value) : ResultVar → Sem Value
  | .tmp t => pure (tmps.getD t undef)
  | .cell x t => do loadVar t (← asAddr (tmps.getD x undef))
theorem results_eq (fn : Func) (tmps : Array Value) : results fn tmps = (do
    let vs ← fn.results.mapM (resM tmps)
    pure (if h : vs.size = 1 then vs[0] else .tuple vs)) := by
  unfold results
  congr 1

theorem resOk_run {P : Program} {M : Mem} {L : HL} {σ : Env} {a : Act} (hs : Sees σ [] a) {w : World} (hp : Hp M L w) : ∀ {rs : List ResultVar} {vs : List Value}, ResOk P M L σ rs vs →
    (rs.mapM (resM a.tmps)).run P w = .ok vs w
  | [], [], _ => by simp
  | .tmp t :: r, v :: vs, h => by
    have := hs.s _ _ h.1
    have ih := resOk_run hs hp h.2
    simp only [List.mapM_cons, Sem.run_bind, ih, Result.andThen_ok, Sem.run_pure, resM, Array.getD_eq_getD_getElem?, this, Option.getD_some]
  | .cell x t :: r, v :: vs, h => by
    obtain ⟨⟨b, off, h1, h2⟩, h3⟩ := h
    have := hs.s _ _ h1
    have ih := resOk_run hs hp h3
    simp only [List.mapM_cons, Sem.run_bind, ih, Result.andThen_ok, Sem.run_pure, resM, Array.getD_eq_getD_getElem?, this, Option.getD_some, asAddr, h2 w hp]
  | [], _ :: _, h => h.elim
  | .tmp _ :: _, [], h => h.elim
  | .cell _ _ :: _, [], h => h.elim

theorem results_run {P : Program} {M : Mem} {L : HL} {σ : Env} {a : Act} {fn : Func} (hs : Sees σ [] a) {w : World} (hp : Hp M L w) {vs : List Value} (h : ResOk P M L σ fn.results.toList vs) : (results fn a.tmps).run P w = .ok (resVal vs) w := by
  have hr := resOk_run hs hp h
  rw [results_eq, Array.mapM_eq_mapM_toList]
  simp only [Sem.run_bind, Sem.run_map, hr, Result.andThen_ok, Sem.run_pure]
  congr 1
  cases vs with
  | nil => simp [resVal]
  | cons v vs => cases vs <;> simp [resVal]

theorem run_ret {P : Program} {f : FuncId} {fn : Func} {K : Value → Mem → HL → Prop} {C : Cx} {n : Nat} {k : List Item} {σ : Env} {M M' : Mem} {L L' : HL} (hC : FnCx P f fn K C) {rs : List ResultVar} {vs : List Value} (hrs : fn.results.toList = rs) (hr : ResOk P M L σ rs vs)
    (hm : ∀ w, Hp M L w → Hp M' L' w) (hk : K (resVal vs) M' L') : Run P C n (.code .ret :: k) [] σ M L := fun a w _ h2 h3 h4 => by
  refine J.step (stepR_ret hC.ro) (J.done ?_)
  rw [hC.phi]
  refine ⟨resVal vs, M', L', hm w h4, hk, hC.b, rfl, h2, hC.kind, fn, ?_, ?_⟩
  · show P.funcs[C.b.fn]? = some fn; rw [hC.b]; exact hC.fnn
  · exact results_run h3 h4 (by rw [hrs]; exact hr)

theorem run_end {P : Program} {f : FuncId} {fn : Func} {K : Value → Mem → HL → Prop} {C : Cx} {n : Nat} {σ : Env} {M M' : Mem} {L L' : HL} (hC : FnCx P f fn K C) {rs : List ResultVar} {vs : List Value} (hrs : fn.results.toList = rs) (hr : ResOk P M L σ rs vs)
    (hm : ∀ w, Hp M L w → Hp M' L' w) (hk : K (resVal vs) M' L') : Run P C n [] [] σ M L := fun a w _ h2 h3 h4 => by
  refine J.step (stepR_end hC.ro) (J.done ?_)
  rw [hC.phi]
  refine ⟨resVal vs, M', L', hm w h4, hk, hC.b, rfl, h2, hC.kind, fn, ?_, ?_⟩
  · show P.funcs[C.b.fn]? = some fn; rw [hC.b]; exact hC.fnn
  · exact results_run h3 h4 (by rw [hrs]; exact hr)

end Go.Chi
