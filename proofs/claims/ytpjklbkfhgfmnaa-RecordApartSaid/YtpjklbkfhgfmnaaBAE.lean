import Derived.Test.YtpjklbkfhgfmnaaBAD
import Derived.Test.YtpjklbkfhgfmnaaBAC
import Derived.Test.YtpjklbkfhgfmnaaBAA
namespace Go.Chi

/-! ### nil checks, interfaces and assertions of other types -/
section
variable {P : Program} {T : TT} {ro : Option Nat} {σ σ' : Env} {δ : Den} {cur : Path} {M : Mem} {L : HL} {d : Option Nat} {op : Op} {ty : TypeId} {pos : String} {aft : Array Edge} {g : Option (Nat × Bool)} {v : Value}
theorem qt_nilIface {x : Operand} {t : TypeId} (hx : ev σ δ cur x = some (.iface t v)) : Qt P ro ⟨d, .nilCheck x, ty, pos, aft, g⟩ σ δ cur M L (.iface t v) :=
  qt_of_run (semAt_of (by intro c e; cases e)) fun a w hs hcur hp => by
    simp [execOp, ev_sound hs hcur hx]
/-- a concrete value as an interface's -/
def concD : TypeDesc → Bool
  | .interface _ => false
  | _ => true
theorem qt_makeIfaceC (hT : TOk P T) {t : TypeId} {x : Operand} {u : TypeDesc} (hu : und T t = some u) (hc : concD u = true) (hx : ev σ δ cur x = some v) :
    Qt P ro ⟨d, .makeInterface t x, ty, pos, aft, g⟩ σ δ cur M L (.iface t v) :=
  qt_of_run (semAt_of (by intro c e; cases e)) fun a w hs hcur hp => by
    cases u <;> first | (cases hc; done) | simp [execOp, Instr.makeInterface, ev_sound hs hcur hx, run_und hT hu]
theorem qt_assertC (hT : TOk P T) {s t : TypeId} {x : Operand} {u : TypeDesc} (hu : und T t = some u) (hc : concD u = true) (hx : ev σ δ cur x = some (.iface t v)) :
    Qt P ro ⟨d, .typeAssert x s t false, ty, pos, aft, g⟩ σ δ cur M L v :=
  qt_of_run (semAt_of (by intro c e; cases e)) fun a w hs hcur hp => by
    cases u <;> first | (cases hc; done) | simp [execOp, Instr.typeAssert, ev_sound hs hcur hx, run_und hT hu]
theorem qt_assertCk (hT : TOk P T) {s t : TypeId} {x : Operand} {u : TypeDesc} (hu : und T t = some u) (hc : concD u = true) (hx : ev σ δ cur x = some (.iface t v)) :
    Qt P ro ⟨d, .typeAssert x s t true, ty, pos, aft, g⟩ σ δ cur M L (.tuple ⟨[v, .bool true]⟩) :=
  qt_of_run (semAt_of (by intro c e; cases e)) fun a w hs hcur hp => by
    cases u <;> first | (cases hc; done) | simp [execOp, Instr.typeAssert, ev_sound hs hcur hx, run_und hT hu]
/-- what is shown of fewer slots -/
theorem Sees.sub {a : Act} (hs : subE σ σ') (h : Sees σ δ a) : Sees σ' δ a := ⟨fun t v e => h.s t v (subE_sound hs t v e), h.d⟩
theorem St.sub {o : Oper} {K : Value → Mem → HL → Prop} (hs : subE σ σ') (h : St P ro o σ' δ cur M L K) : St P ro o σ δ cur M L K :=
  fun a w h1 h2 h3 => h a w (h1.sub hs) h2 h3
end
def unE (d : Nat) : Env → Bool
  | [] => true
  | (t, _) :: σ => match Nat.beq t d with | true => false | false => unE d σ
theorem subE_put {σ : Env} {d : Nat} {v : Value} : ∀ {σ' : Env}, unE d σ' = true → subE σ σ' → subE ((d, v) :: σ) σ'
  | [], _, _ => trivial
  | (t, u) :: σ', h, hs => by
    simp only [unE] at h
    split at h
    · cases h
    · rename_i hb
      have hne := Nat.ne_of_beq_eq_false hb
      refine ⟨?_, subE_put h hs.2⟩
      rw [lks_cons, if_neg (fun e => hne e.symm)]
      exact hs.1
theorem subE_cons {σ : Env} {x : Nat × Value} (hn : lks σ x.1 = none) : ∀ {σ' : Env}, subE σ σ' → subE (x :: σ) σ'
  | [], _ => trivial
  | (t, u) :: σ', h => by
    refine ⟨?_, subE_cons hn h.2⟩
    obtain ⟨d, v⟩ := x
    rw [lks_cons]
    split
    · rename_i e; subst e; rw [h.1] at hn; cases hn
    · exact h.1
def uniqE : Env → Bool
  | [] => true
  | (t, _) :: σ => match lks σ t with | none => uniqE σ | some _ => false
theorem subE_refl : ∀ {σ : Env}, uniqE σ = true → subE σ σ
  | [], _ => trivial
  | (t, v) :: σ, h => by
    simp only [uniqE] at h
    split at h
    · rename_i hn
      exact ⟨by rw [lks_cons, if_pos rfl], subE_cons hn (subE_refl h)⟩
    · cases h
theorem subE_trans {σ σ1 : Env} : ∀ {σ2 : Env}, subE σ σ1 → subE σ1 σ2 → subE σ σ2
  | [], _, _ => trivial
  | (_, _) :: _, h, h2 => ⟨subE_sound h _ _ h2.1, subE_trans h h2.2⟩

/-! ### calls that may panic, of values -/
section
variable {P : Program} {C : Cx} {n : Nat} {k : List Item} {ds : List Deferred} {σ : Env} {δ : Den} {M : Mem} {L : HL} {ops : Array Oper}
theorem runL_enterE {od : Option Nat} {op : Op} {ty : TypeId} {pos : String} {aft : Array Edge} {l : List Oper} {f : FuncId} {vs : List Value} {K : Ending → Mem → HL → Prop}
    (hr : ∀ a w, Sees σ δ a → ((⟨od, op, ty, pos, aft, none⟩ : Oper).semAt C.b.roundOf a.eval).run P w = .ok (.enter f ⟨vs⟩) w)
    (ht : TrE P f vs M L K) {σ' : Value → Env} (hd : ∀ a v, a.tmps.size = n → Sees σ δ a → Sees (σ' v) δ (a.put od v))
    (h : ∀ v M' L', K (.returned v) M' L' → RunL P C n ops l k ds (σ' v) δ M' L') (hp : ∀ ch M' L', K (.panicked ch) M' L' → RunX P C n (.panicking ch) ds σ M' L') :
    RunL P C n ops (⟨od, op, ty, pos, aft, none⟩ :: l) k ds σ δ M L := fun a w idx h1 h2 h3 h4 h5 => by
  cases idx with
  | nil => simp at h5
  | cons i r =>
    simp only [List.map_cons, List.cons.injEq] at h5
    have hg := stepGR_op (P := P) (b := C.b) (k := k) (cs := C.cs) (w := w) (rest := r) (a := a) h5.1 (wanted_none rfl _)
    have hr := hr a w h3
    obtain ⟨e, w'', fr, ⟨M', L', hp', hK⟩, hne, hs, _, hl⟩ := ht.2 w h4 (C.b.atR a (.inRegion ops (i :: r) :: k) :: C.cs)
    have henter : step P (lone (C.b.atR a (.inRegion ops (i :: r) :: k)) C.cs w) =
        .next (lone (Frame.enter P f ⟨vs⟩ .normal) (C.b.atR a (.inRegion ops (i :: r) :: k) :: C.cs) w) :=
      step_lone_go (by rw [hg]; simp [stepG.apply, hr, Frame.atR])
    cases e with
    | outgrown => exact absurd rfl hne
    | returned v =>
      have hstep := step_leave_returned (c := C.b.atR a (.inRegion ops (i :: r) :: k)) (cs := C.cs) hl
      rw [finish_op h5.1] at hstep
      exact J.steps (.head henter (hs.trans (.one hstep))) (h v M' L' hK _ w'' r (by rw [put_size]; exact h1) (by rw [put_defers]; exact h2) (hd a v h1 h3) hp' h5.2)
    | panicked ch =>
      have hstep := step_leave_panicked (c := C.b.atR a (.inRegion ops (i :: r) :: k)) (cs := C.cs) hl
      have hra : (C.b.atR a (.inRegion ops (i :: r) :: k)).raise ch = { C.b.atR a (.inRegion ops (i :: r) :: k) with mode := .panicking ch } := by simp [Frame.raise, Frame.atR]
      rw [hra] at hstep
      exact J.steps (.head henter (hs.trans (.one hstep))) (hp ch M' L' hK a w'' _ h1 h2 h3.nil hp')
theorem runL_callVE {d : Nat} {ty : TypeId} {pos : String} {aft : Array Edge} {l : List Oper} {x : Operand} {f : FuncId} {args : Array Operand} {tys : Array TypeId} {first cap : Array Value} {vs : List Value} {K : Ending → Mem → HL → Prop}
    (hx : ev σ δ [] x = some (.func (.func f) first cap)) (ha : evs σ δ [] args.toList = some vs) (ht : TrE P f (first.toList ++ vs ++ cap.toList) M L K) (hd : Nat.blt d n = true) (hn : lkd δ d = none) (hu : unNamed δ d = true)
    (h : ∀ v M' L', K (.returned v) M' L' → RunL P C n ops l k ds ((d, v) :: σ) δ M' L') (hp : ∀ ch M' L', K (.panicked ch) M' L' → RunX P C n (.panicking ch) ds σ M' L') :
    RunL P C n ops (⟨some d, .call ⟨.value x, args, tys⟩, ty, pos, aft, none⟩ :: l) k ds σ δ M L := by
  refine runL_enterE (fun a w h3 => ?_) ht (σ' := fun v => (d, v) :: σ) (fun a v h1 h3 => h3.put (by rw [h1]; exact Nat.blt_eq.mp hd) hn hu v) h hp
  rw [semAt_of (by intro c e; cases e)]
  have e1 : args.map a.eval = ⟨vs⟩ := by apply Array.ext'; simpa using evs_sound h3 (holds_nil a) ha
  have e2 : first ++ (⟨vs⟩ : Array Value) ++ cap = ⟨first.toList ++ vs ++ cap.toList⟩ := by apply Array.ext'; simp
  simp only [execOp, resolve, e1, ev_sound h3 (holds_nil a) hx, Deferred.ofValue, Sem.run_bind, Sem.run_pure, Result.andThen_ok, invoke, e2]
  exact ht.1 w
theorem runL_callME {d : Nat} {ty : TypeId} {pos : String} {aft : Array Edge} {l : List Oper} {x : Operand} {t : TypeId} {u : Value} {name : String} {f : FuncId} {args : Array Operand} {tys : Array TypeId} {vs : List Value} {K : Ending → Mem → HL → Prop}
    (hx : ev σ δ [] x = some (.func (.method name) #[.iface t u] #[])) (ha : evs σ δ [] args.toList = some vs) (hm : MethOk P t name f) (ht : TrE P f (u :: vs) M L K) (hd : Nat.blt d n = true) (hn : lkd δ d = none) (hu : unNamed δ d = true)
    (h : ∀ v M' L', K (.returned v) M' L' → RunL P C n ops l k ds ((d, v) :: σ) δ M' L') (hp : ∀ ch M' L', K (.panicked ch) M' L' → RunX P C n (.panicking ch) ds σ M' L') :
    RunL P C n ops (⟨some d, .call ⟨.value x, args, tys⟩, ty, pos, aft, none⟩ :: l) k ds σ δ M L := by
  refine runL_enterE (fun a w h3 => ?_) ht (σ' := fun v => (d, v) :: σ) (fun a v h1 h3 => h3.put (by rw [h1]; exact Nat.blt_eq.mp hd) hn hu v) h hp
  rw [semAt_of (by intro c e; cases e)]
  have e1 : args.map a.eval = ⟨vs⟩ := by apply Array.ext'; simpa using evs_sound h3 (holds_nil a) ha
  have h4 : ∀ n w, (method (n + 1) t u name).run P w = .ok (f, u) w := fun n w => run_method hm n u w
  simp only [execOp, resolve, e1, ev_sound h3 (holds_nil a) hx, Deferred.ofValue, Sem.run_bind, Sem.run_pure, Result.andThen_ok, invoke]
  have e2 : (#[Value.iface t u] ++ (⟨vs⟩ : Array Value))[0]? = some (.iface t u) := by simp
  have e3 : (#[Value.iface t u] ++ (⟨vs⟩ : Array Value)).extract 1 (#[Value.iface t u] ++ (⟨vs⟩ : Array Value)).size = ⟨vs⟩ := by
    apply Array.ext'
    simp
  have e4 : #[u] ++ (⟨vs⟩ : Array Value) = ⟨u :: vs⟩ := by apply Array.ext'; simp
  simp only [e2, e3, callMethod, Sem.run_bind, run_program, Result.andThen_ok]
  rw [show P.types.size + Made.depth = (P.types.size + (Made.depth - 1)) + 1 from rfl, h4]
  simp only [Result.andThen_ok, e4]
  exact ht.1 w
end
end Go.Chi
namespace Go.Proofs.Ytpjklbkfhgfmnaa
open Go.Chi

/-! ### which methods a kind calls: record.of -/
def mv (t : Nat) (p : Value) (nm : String) : Value := .func (.method nm) ⟨[.iface t p]⟩ ⟨[]⟩
def methL (k : Int) : List String :=
  if k = 1 then ["chirograph/record.epoch"] else
  if k = 2 then ["chirograph/record.txn", "chirograph/record.yes", "chirograph/record.auditor", "chirograph/record.members", "chirograph/record.body"] else
  if k = 3 then ["chirograph/record.txn", "chirograph/record.yes", "chirograph/record.more"] else
  if k = 4 then ["chirograph/record.txn", "chirograph/record.yes"] else []
structure OfE where
  bld : Nat
  ins : Nat
  slot : Nat
  key : Int
def ofT : List OfE := [⟨4, 5, 9, 1⟩, ⟨21, 22, 25, 2⟩, ⟨32, 33, 35, 3⟩, ⟨40, 41, 42, 4⟩]
abbrev kU8 (n : Int) : Value := .int .u8 n
def ofCs (t : Nat) (p : Value) (k : Int) : List Value := (methL k).map (mv t p)
def ofV (b : Nat) (k : Int) : Value := .slice (some ⟨b, 0, none⟩) (methL k).length (methL k).length
structure OfI (t : Nat) (p : Value) (σ0 : Env) (M : Mem) (L : HL) (X : List Nat) (σ : Env) (M1 : Mem) (L1 : HL) : Prop where
  le : M.le M1
  sub : subE σ σ0
  own : 0 ∉ X → L1 = L
  first : ∀ y ∈ ofT, y.ins ∈ X → 0 ∈ X ∧ y.bld ∈ X
  map : 0 ∈ X → ∃ bm es clk, lks σ 5 = some (.map (some bm)) ∧ L1 = (bm, .map ⟨ents kU8 es⟩ clk) :: L ∧ (∀ q : Int, q ≠ 1 → q ≠ 2 → q ≠ 3 → q ≠ 4 → kvGet es q = none) ∧ ∀ y ∈ ofT, y.ins ∈ X → kvGet es y.key = lks σ y.slot
  blt : ∀ y ∈ ofT, y.bld ∈ X → ∃ b, lks σ y.slot = some (ofV b y.key) ∧ M1.blk b = some (.cells ⟨ofCs t p y.key⟩ 1 (0, 0))
theorem ofT_all {q : OfE → Prop} : (∀ y ∈ ofT, q y) ↔ q ⟨4, 5, 9, 1⟩ ∧ q ⟨21, 22, 25, 2⟩ ∧ q ⟨32, 33, 35, 3⟩ ∧ q ⟨40, 41, 42, 4⟩ := by simp [ofT]
theorem ofT_slot {y z : OfE} (hy : y ∈ ofT) (hz : z ∈ ofT) : (y.slot = z.slot ↔ y = z) ∧ (y.key = z.key ↔ y = z) ∧ (y.bld = z.bld ↔ y = z) ∧ (y.ins = z.ins ↔ y = z) ∧ y.bld ≠ z.ins ∧ y.bld ≠ 0 ∧ y.ins ≠ 0 ∧ y.slot ≠ 5 ∧ (y.key = 1 ∨ y.key = 2 ∨ y.key = 3 ∨ y.key = 4) := by
  simp only [ofT, List.mem_cons, List.not_mem_nil, or_false] at hy hz
  rcases hy with rfl | rfl | rfl | rfl <;> rcases hz with rfl | rfl | rfl | rfl <;> simp
section
variable {t : Nat} {p : Value} {σ0 : Env} {M : Mem} {L : HL} {X : List Nat} {σ : Env} {M1 : Mem} {L1 : HL}
theorem OfI.make (h : OfI t p σ0 M L X σ M1 L1) (hX : 0 ∉ X) (hu : unE 5 σ0 = true) (b : Nat) : OfI t p σ0 M L (0 :: X) ((5, .map (some b)) :: σ) M1 ((b, .map ⟨ents kU8 []⟩ 0) :: L1) where
  le := h.le
  sub := subE_put hu h.sub
  own := fun hn => absurd List.mem_cons_self hn
  first := fun y hy hi => ⟨List.mem_cons_self, by
    rcases List.mem_cons.1 hi with e | hi
    · exact absurd e (ofT_slot hy hy).2.2.2.2.2.2.1
    · exact List.mem_cons_of_mem _ (h.first y hy hi).2⟩
  map := fun _ => ⟨b, [], 0, rfl, by rw [h.own hX], fun _ _ _ _ _ => rfl, fun y hy hi => by
    rcases List.mem_cons.1 hi with e | hi
    · exact absurd e (ofT_slot hy hy).2.2.2.2.2.2.1
    · exact absurd (h.first y hy hi).1 hX⟩
  blt := fun y hy hi => by
    have hs := ofT_slot hy hy
    rcases List.mem_cons.1 hi with e | hi
    · exact absurd e hs.2.2.2.2.2.1
    · obtain ⟨b', h1, h2⟩ := h.blt y hy hi
      exact ⟨b', by rw [lks_cons, if_neg (fun e => hs.2.2.2.2.2.2.2.1 e.symm)]; exact h1, h2⟩
theorem OfI.build (h : OfI t p σ0 M L X σ M1 L1) {y : OfE} (hy : y ∈ ofT) (hn : y.bld ∉ X) (hu : unE y.slot σ0 = true) {M2 : Mem} (hM : M1.le M2) {b : Nat} (hb : M2.blk b = some (.cells ⟨ofCs t p y.key⟩ 1 (0, 0))) : OfI t p σ0 M L (y.bld :: X) ((y.slot, ofV b y.key) :: σ) M2 L1 where
  le := Mem.le_trans h.le hM
  sub := subE_put hu h.sub
  own := fun h0 => h.own fun e => h0 (List.mem_cons_of_mem _ e)
  first := fun z hz hi => by
    rcases List.mem_cons.1 hi with e | hi
    · exact absurd e.symm (ofT_slot hy hz).2.2.2.2.1
    · exact ⟨List.mem_cons_of_mem _ (h.first z hz hi).1, List.mem_cons_of_mem _ (h.first z hz hi).2⟩
  map := fun h0 => by
    have h0' : 0 ∈ X := (List.mem_cons.1 h0).resolve_left fun e => (ofT_slot hy hy).2.2.2.2.2.1 e.symm
    obtain ⟨bm, es, clk, h1, h2, h3, h4⟩ := h.map h0'
    refine ⟨bm, es, clk, ?_, h2, h3, fun z hz hi => ?_⟩
    · rw [lks_cons, if_neg (ofT_slot hy hy).2.2.2.2.2.2.2.1]; exact h1
    · rcases List.mem_cons.1 hi with e | hi
      · exact absurd e.symm (ofT_slot hy hz).2.2.2.2.1
      · rw [lks_cons, if_neg (fun e => hn (h.first y hy (by rw [(ofT_slot hy hz).1.1 e]; exact hi)).2)]; exact h4 z hz hi
  blt := fun z hz hi => by
    by_cases e : y = z
    · subst e
      exact ⟨b, by rw [lks_cons, if_pos rfl], hb⟩
    · rcases List.mem_cons.1 hi with e' | hi
      · exact absurd ((ofT_slot hy hz).2.2.1.1 e'.symm) e
      · obtain ⟨b', h1, h2⟩ := h.blt z hz hi
        exact ⟨b', by rw [lks_cons, if_neg (fun e' => e ((ofT_slot hy hz).1.1 e'))]; exact h1, hM.blk _ _ h2⟩
theorem OfI.put (h : OfI t p σ0 M L X σ M1 L1) {y : OfE} (hy : y ∈ ofT) {bm : Nat} {es : KV Int} {clk clk' : Nat} {v : Value} (hb : y.bld ∈ X) (h5 : lks σ 5 = some (.map (some bm)))
    (h3 : ∀ q : Int, q ≠ 1 → q ≠ 2 → q ≠ 3 → q ≠ 4 → kvGet es q = none) (h4 : ∀ y ∈ ofT, y.ins ∈ X → kvGet es y.key = lks σ y.slot) (h0 : 0 ∈ X) (hv : lks σ y.slot = some v) : OfI t p σ0 M L (y.ins :: X) σ M1 ((bm, .map ⟨ents kU8 (kvSet es y.key v clk)⟩ clk') :: L) where
  le := h.le
  sub := h.sub
  own := fun hn => absurd (List.mem_cons_of_mem _ h0) hn
  first := fun z hz hi => ⟨List.mem_cons_of_mem _ h0, by
    rcases List.mem_cons.1 hi with e | hi
    · rw [(ofT_slot hz hy).2.2.2.1.1 e]; exact List.mem_cons_of_mem _ hb
    · exact List.mem_cons_of_mem _ (h.first z hz hi).2⟩
  map := fun _ => ⟨bm, _, clk', h5, rfl, fun q q1 q2 q3 q4 => by
    have := (ofT_slot hy hy).2.2.2.2.2.2.2.2
    rw [kvGet_set, if_neg (by omega)]; exact h3 q q1 q2 q3 q4, fun z hz hi => by
    rw [kvGet_set]
    by_cases e : y = z
    · subst e; rw [if_pos rfl]; exact hv.symm
    · rw [if_neg (fun e' => e ((ofT_slot hy hz).2.1.1 e'.symm))]
      rcases List.mem_cons.1 hi with e' | hi
      · exact absurd ((ofT_slot hy hz).2.2.2.1.1 e'.symm) e
      · exact h4 z hz hi⟩
  blt := fun z hz hi => by
    rcases List.mem_cons.1 hi with e' | hi
    · exact absurd e' (ofT_slot hz hy).2.2.2.2.1
    · exact h.blt z hz hi
end
theorem of_flat (t : Nat) (p : Value) (k : Int) : ofCs t p k = ((methL k).map fun nm => [mv t p nm]).flatten := by
  unfold ofCs
  induction methL k with
  | nil => rfl
  | cons x l ih => rw [List.map_cons, List.map_cons, List.flatten_cons, ih]; rfl
theorem of_sl {M : Mem} {b t : Nat} {p : Value} {k : Int} (h : M.blk b = some (.cells ⟨ofCs t p k⟩ 1 (0, 0))) : SlM M 1 (some ⟨b, 0, none⟩) (methL k).length ((methL k).map fun nm => [mv t p nm]) := by
  have := SlM.ofBlk (size := 1) h (of_flat t p k) (by simp)
  rwa [List.length_map] at this
theorem _root_.Go.Chi.pr_named {P : Program} {C : Cx} {n : Nat} {k : List Item} {ds : List Deferred} {σ : Env} {δ : Den} {M : Mem} {L : HL} {ops : Array Oper} {D X : List Nat} (h : ∀ σ1, σ1 = σ → PR P C n ops k ds D X σ1 δ M L) : PR P C n ops k ds D X σ δ M L := h σ rfl
/-- what is found of a kind -/
theorem of_look {t : Nat} {p : Value} {σ0 : Env} {M : Mem} {L : HL} {X : List Nat} {σ : Env} {M1 : Mem} {L1 : HL} (h : OfI t p σ0 M L X σ M1 L1) {es : KV Int} (h3 : ∀ q : Int, q ≠ 1 → q ≠ 2 → q ≠ 3 → q ≠ 4 → kvGet es q = none) (h4 : ∀ y ∈ ofT, y.ins ∈ X → kvGet es y.key = lks σ y.slot)
    (hall : ∀ y ∈ ofT, y.bld ∈ X ∧ y.ins ∈ X) (k : Int) : ∃ v, lookRes false (kvGet es k) (.slice none 0 0) = v ∧ ∃ a c, v = .slice a (methL k).length c ∧ SlM M1 1 a (methL k).length ((methL k).map fun nm => [mv t p nm]) := by
  have key : ∀ y ∈ ofT, ∃ v, lookRes false (kvGet es y.key) (.slice none 0 0) = v ∧ ∃ a c, v = .slice a (methL y.key).length c ∧ SlM M1 1 a (methL y.key).length ((methL y.key).map fun nm => [mv t p nm]) := fun y hy => by
    obtain ⟨h5, h6⟩ := hall y hy
    obtain ⟨b, h7, h8⟩ := h.blt y hy h5
    rw [h4 y hy h6, h7]
    exact ⟨_, rfl, _, _, rfl, of_sl h8⟩
  rw [ofT_all] at key
  by_cases k1 : k = 1
  · subst k1; exact key.1
  by_cases k2 : k = 2
  · subst k2; exact key.2.1
  by_cases k3 : k = 3
  · subst k3; exact key.2.2.1
  by_cases k4 : k = 4
  · subst k4; exact key.2.2.2
  have hm : methL k = [] := by rw [methL, if_neg k1, if_neg k2, if_neg k3, if_neg k4]
  rw [h3 k k1 k2 k3 k4, hm]
  exact ⟨_, rfl, _, _, rfl, SlM.nil _ _ _⟩
end Go.Proofs.Ytpjklbkfhgfmnaa
namespace Go.Proofs.Ytpjklbkfhgfmnaa
open Go.Chi

set_option maxRecDepth 10000 in
set_option maxHeartbeats 16000000 in
theorem of_ok (M : Mem) (L : HL) (k : Int) (t : Nat) (p : Value) : Tr Try.prog 19 [.int .u8 k, .iface t p] M L (fun v M' L' => M.le M' ∧ L' = L ∧ ∃ a c, v = .slice a (methL k).length c ∧ SlM M' 1 a (methL k).length ((methL k).map fun nm => [mv t p nm])) := by
  refine Tr.intro 46 Try.func19 rfl rfl Try.call19 rfl ?_
  intro C hC hro
  refine run_seq ?_
  (refine run_region ?_; (repeat (first | refine runL_q (qt_pev tok rfl) rfl rfl rfl ?_ | refine runL_g rfl rfl (qt_pev tok rfl) rfl rfl rfl rfl rfl ?_ | refine runL_q (ql tok rfl) rfl rfl rfl ?_ | refine runL_g rfl rfl (ql tok rfl) rfl rfl rfl rfl rfl ?_ | (refine runL_op0 (sst tok rfl rfl rfl rfl rfl) ?_; rintro _ _ _ ⟨rfl, rfl, rfl⟩) | (refine runL_op (st_box rfl) rfl rfl rfl ?_; rintro _ _ _ ⟨_, rfl, rfl, rfl⟩) | (refine runL_op (st_alloc tok rfl) rfl rfl rfl ?_; rintro _ _ _ ⟨_, rfl, rfl, rfl⟩) | (refine runL_op (st_buildSlice tok rfl rfl rfl rfl rfl rfl rfl) rfl rfl rfl ?_; rintro _ _ _ ⟨_, rfl, rfl, rfl⟩))); refine runL_nil ?_)
  refine run_seq ?_
  refine run_draw mixed ?_
  refine pr_q 1 (by decide +kernel) rfl (qt_pev tok rfl) rfl rfl rfl ?_
  refine pr_q 2 (by decide +kernel) rfl (qt_nilIface rfl) rfl rfl rfl ?_
  refine pr_q 3 (by decide +kernel) rfl (qt_pev tok rfl) rfl rfl rfl ?_
  refine pr_q 6 (by decide +kernel) rfl (qt_pev tok rfl) rfl rfl rfl ?_
  refine pr_q 7 (by decide +kernel) rfl (qt_nilIface rfl) rfl rfl rfl ?_
  refine pr_q 8 (by decide +kernel) rfl (qt_pev tok rfl) rfl rfl rfl ?_
  refine pr_q 9 (by decide +kernel) rfl (qt_pev tok rfl) rfl rfl rfl ?_
  refine pr_q 10 (by decide +kernel) rfl (qt_nilIface rfl) rfl rfl rfl ?_
  refine pr_q 11 (by decide +kernel) rfl (qt_pev tok rfl) rfl rfl rfl ?_
  refine pr_q 12 (by decide +kernel) rfl (qt_pev tok rfl) rfl rfl rfl ?_
  refine pr_q 13 (by decide +kernel) rfl (qt_nilIface rfl) rfl rfl rfl ?_
  refine pr_q 14 (by decide +kernel) rfl (qt_pev tok rfl) rfl rfl rfl ?_
  refine pr_q 15 (by decide +kernel) rfl (qt_pev tok rfl) rfl rfl rfl ?_
  refine pr_q 16 (by decide +kernel) rfl (qt_nilIface rfl) rfl rfl rfl ?_
  refine pr_q 17 (by decide +kernel) rfl (qt_pev tok rfl) rfl rfl rfl ?_
  refine pr_q 18 (by decide +kernel) rfl (qt_pev tok rfl) rfl rfl rfl ?_
  refine pr_q 19 (by decide +kernel) rfl (qt_nilIface rfl) rfl rfl rfl ?_
  refine pr_q 20 (by decide +kernel) rfl (qt_pev tok rfl) rfl rfl rfl ?_
  refine pr_q 23 (by decide +kernel) rfl (qt_pev tok rfl) rfl rfl rfl ?_
  refine pr_q 24 (by decide +kernel) rfl (qt_nilIface rfl) rfl rfl rfl ?_
  refine pr_q 25 (by decide +kernel) rfl (qt_pev tok rfl) rfl rfl rfl ?_
  refine pr_q 26 (by decide +kernel) rfl (qt_pev tok rfl) rfl rfl rfl ?_
  refine pr_q 27 (by decide +kernel) rfl (qt_nilIface rfl) rfl rfl rfl ?_
  refine pr_q 28 (by decide +kernel) rfl (qt_pev tok rfl) rfl rfl rfl ?_
  refine pr_q 29 (by decide +kernel) rfl (qt_pev tok rfl) rfl rfl rfl ?_
  refine pr_q 30 (by decide +kernel) rfl (qt_nilIface rfl) rfl rfl rfl ?_
  refine pr_q 31 (by decide +kernel) rfl (qt_pev tok rfl) rfl rfl rfl ?_
  refine pr_q 34 (by decide +kernel) rfl (qt_pev tok rfl) rfl rfl rfl ?_
  refine pr_q 35 (by decide +kernel) rfl (qt_nilIface rfl) rfl rfl rfl ?_
  refine pr_q 36 (by decide +kernel) rfl (qt_pev tok rfl) rfl rfl rfl ?_
  refine pr_q 37 (by decide +kernel) rfl (qt_pev tok rfl) rfl rfl rfl ?_
  refine pr_q 38 (by decide +kernel) rfl (qt_nilIface rfl) rfl rfl rfl ?_
  refine pr_q 39 (by decide +kernel) rfl (qt_pev tok rfl) rfl rfl rfl ?_
  refine pr_q 43 (by decide +kernel) rfl (qt_pev tok rfl) rfl rfl rfl ?_
  refine pr_named ?_
  intro σ0 hσ0
  refine pr_inv (Es := [0, 4, 21, 32, 40, 5, 22, 33, 41]) (OfI t p σ0 M L) (by decide +kernel) ?_ ?_ ?_ 9 [] σ0 M L (by decide) (fun x hx => by cases hx) (fun x hx => by cases hx) ⟨Mem.le_refl _, subE_refl (by rw [hσ0]; rfl), (fun _ => rfl), (fun _ _ h => by cases h), (fun h => by cases h), (fun _ _ h => by cases h)⟩
  · subst hσ0
    intro X σ M1 L1 hI e he hX hp
    simp only [List.mem_cons, List.not_mem_nil, or_false] at he
    rcases he with rfl | rfl | rfl | rfl | rfl | rfl | rfl | rfl | rfl
    · refine ⟨some 5, _, _, _, _, _, fun v => (5, v) :: σ, rfl, st_makeMapE kU8, fun a v hn hs => hs.put (by rw [hn]; decide) rfl rfl v, ?_⟩
      rintro v M' L' ⟨b, rfl, rfl, rfl⟩
      exact hI.make hX rfl b
    · refine ⟨some 9, _, _, _, _, _, fun v => (9, v) :: σ, rfl, St.sub hI.sub (St.frz1 (V := fun b => .slice (some ⟨b, 0, none⟩) 1 1) (st_buildSlice tok rfl rfl rfl rfl rfl rfl rfl)), fun a v hn hs => hs.put (by rw [hn]; decide) rfl rfl v, ?_⟩
      rintro v M' L' ⟨hM, rfl, b, rfl, hb⟩
      exact hI.build (y := ⟨4, 5, 9, 1⟩) (by simp [ofT]) hX rfl hM hb
    · refine ⟨some 25, _, _, _, _, _, fun v => (25, v) :: σ, rfl, St.sub hI.sub (St.frz1 (V := fun b => .slice (some ⟨b, 0, none⟩) 5 5) (st_buildSlice tok rfl rfl rfl rfl rfl rfl rfl)), fun a v hn hs => hs.put (by rw [hn]; decide) rfl rfl v, ?_⟩
      rintro v M' L' ⟨hM, rfl, b, rfl, hb⟩
      exact hI.build (y := ⟨21, 22, 25, 2⟩) (by simp [ofT]) hX rfl hM hb
    · refine ⟨some 35, _, _, _, _, _, fun v => (35, v) :: σ, rfl, St.sub hI.sub (St.frz1 (V := fun b => .slice (some ⟨b, 0, none⟩) 3 3) (st_buildSlice tok rfl rfl rfl rfl rfl rfl rfl)), fun a v hn hs => hs.put (by rw [hn]; decide) rfl rfl v, ?_⟩
      rintro v M' L' ⟨hM, rfl, b, rfl, hb⟩
      exact hI.build (y := ⟨32, 33, 35, 3⟩) (by simp [ofT]) hX rfl hM hb
    · refine ⟨some 42, _, _, _, _, _, fun v => (42, v) :: σ, rfl, St.sub hI.sub (St.frz1 (V := fun b => .slice (some ⟨b, 0, none⟩) 2 2) (st_buildSlice tok rfl rfl rfl rfl rfl rfl rfl)), fun a v hn hs => hs.put (by rw [hn]; decide) rfl rfl v, ?_⟩
      rintro v M' L' ⟨hM, rfl, b, rfl, hb⟩
      exact hI.build (y := ⟨40, 41, 42, 4⟩) (by simp [ofT]) hX rfl hM hb
    · have h0 : 0 ∈ X := (hp 0 (by decide +kernel)).resolve_right (by decide)
      have hb : 4 ∈ X := (hp 4 (by decide +kernel)).resolve_right (by decide)
      obtain ⟨bm, es, clk, h5, rfl, h3, h4⟩ := hI.map h0
      obtain ⟨b, h6, h7⟩ := hI.blt ⟨4, 5, 9, 1⟩ (by simp [ofT]) hb
      refine ⟨none, _, _, _, _, _, fun _ => σ, rfl, St.sub (σ' := [(5, .map (some bm)), (9, ofV b 1)]) ⟨h5, h6, trivial⟩ (st_mapUpdate (enc := kU8) tok (keyInt tok rfl) (.inr rfl) rfl rfl rfl rfl rfl (Upd.here _ _ _ _)), fun a v _ hs => hs, ?_⟩
      rintro v M' L' ⟨rfl, rfl, rfl⟩
      exact hI.put (y := ⟨4, 5, 9, 1⟩) (by simp [ofT]) hb h5 h3 h4 h0 h6
    · have h0 : 0 ∈ X := (hp 0 (by decide +kernel)).resolve_right (by decide)
      have hb : 21 ∈ X := (hp 21 (by decide +kernel)).resolve_right (by decide)
      obtain ⟨bm, es, clk, h5, rfl, h3, h4⟩ := hI.map h0
      obtain ⟨b, h6, h7⟩ := hI.blt ⟨21, 22, 25, 2⟩ (by simp [ofT]) hb
      refine ⟨none, _, _, _, _, _, fun _ => σ, rfl, St.sub (σ' := [(5, .map (some bm)), (25, ofV b 2)]) ⟨h5, h6, trivial⟩ (st_mapUpdate (enc := kU8) tok (keyInt tok rfl) (.inr rfl) rfl rfl rfl rfl rfl (Upd.here _ _ _ _)), fun a v _ hs => hs, ?_⟩
      rintro v M' L' ⟨rfl, rfl, rfl⟩
      exact hI.put (y := ⟨21, 22, 25, 2⟩) (by simp [ofT]) hb h5 h3 h4 h0 h6
    · have h0 : 0 ∈ X := (hp 0 (by decide +kernel)).resolve_right (by decide)
      have hb : 32 ∈ X := (hp 32 (by decide +kernel)).resolve_right (by decide)
      obtain ⟨bm, es, clk, h5, rfl, h3, h4⟩ := hI.map h0
      obtain ⟨b, h6, h7⟩ := hI.blt ⟨32, 33, 35, 3⟩ (by simp [ofT]) hb
      refine ⟨none, _, _, _, _, _, fun _ => σ, rfl, St.sub (σ' := [(5, .map (some bm)), (35, ofV b 3)]) ⟨h5, h6, trivial⟩ (st_mapUpdate (enc := kU8) tok (keyInt tok rfl) (.inr rfl) rfl rfl rfl rfl rfl (Upd.here _ _ _ _)), fun a v _ hs => hs, ?_⟩
      rintro v M' L' ⟨rfl, rfl, rfl⟩
      exact hI.put (y := ⟨32, 33, 35, 3⟩) (by simp [ofT]) hb h5 h3 h4 h0 h6
    · have h0 : 0 ∈ X := (hp 0 (by decide +kernel)).resolve_right (by decide)
      have hb : 40 ∈ X := (hp 40 (by decide +kernel)).resolve_right (by decide)
      obtain ⟨bm, es, clk, h5, rfl, h3, h4⟩ := hI.map h0
      obtain ⟨b, h6, h7⟩ := hI.blt ⟨40, 41, 42, 4⟩ (by simp [ofT]) hb
      refine ⟨none, _, _, _, _, _, fun _ => σ, rfl, St.sub (σ' := [(5, .map (some bm)), (42, ofV b 4)]) ⟨h5, h6, trivial⟩ (st_mapUpdate (enc := kU8) tok (keyInt tok rfl) (.inr rfl) rfl rfl rfl rfl rfl (Upd.here _ _ _ _)), fun a v _ hs => hs, ?_⟩
      rintro v M' L' ⟨rfl, rfl, rfl⟩
      exact hI.put (y := ⟨40, 41, 42, 4⟩) (by simp [ofT]) hb h5 h3 h4 h0 h6
  · intro X σ M1 L1 hI e _ _ M' L' σ' _ q hq a hs
    have hs := Sees.sub hI.sub hs
    clear hI
    subst hσ0
    refine PendAll.mem (qs := [39, 38, 37, 36, 35, 34, 31, 30, 29, 28, 27, 26, 25, 24, 23, 20, 19, 18, 17, 16, 15, 14, 13, 12, 11, 10, 9, 8, 7, 6, 3, 2, 1, 43]) ?_ q (by simp only [List.mem_cons, List.not_mem_nil, or_false] at hq ⊢; omega) a hs
    (repeat (first | exact trivial | refine And.intro (pend_q rfl rfl rfl (qt_pev tok rfl)) ?_ | refine And.intro (pend_q rfl rfl rfl (ql tok rfl)) ?_ | refine And.intro (pend_q rfl rfl rfl (qt_nilIface rfl)) ?_))
  · intro X σ M1 L1 hI hall hXs
    obtain ⟨bm, es, clk, h5, rfl, h3, h4⟩ := hI.map (hall 0 (by decide))
    obtain ⟨v, hv, a, c, rfl, hsl⟩ := of_look hI h3 h4 (by rw [ofT_all]; exact ⟨⟨hall 4 (by decide), hall 5 (by decide)⟩, ⟨hall 21 (by decide), hall 22 (by decide)⟩, ⟨hall 32 (by decide), hall 33 (by decide)⟩, ⟨hall 40 (by decide), hall 41 (by decide)⟩⟩) k
    refine pr_set (X' := X) (D' := 43 :: (List.range 42)) (fun i => ?_) (fun _ h => h) ?_
    · have e1 : ∀ i ∈ [0, 4, 21, 32, 40, 5, 22, 33, 41] ++ [43, 39, 38, 37, 36, 35, 34, 31, 30, 29, 28, 27, 26, 25, 24, 23, 20, 19, 18, 17, 16, 15, 14, 13, 12, 11, 10, 9, 8, 7, 6, 3, 2, 1], i ∈ 43 :: List.range 42 := by decide
      have e2 : ∀ i ∈ 43 :: List.range 42, i ∈ [0, 4, 21, 32, 40, 5, 22, 33, 41] ++ [43, 39, 38, 37, 36, 35, 34, 31, 30, 29, 28, 27, 26, 25, 24, 23, 20, 19, 18, 17, 16, 15, 14, 13, 12, 11, 10, 9, 8, 7, 6, 3, 2, 1] := by decide
      constructor
      · intro hi
        refine e1 i ?_
        rcases List.mem_append.1 hi with hi | hi
        · exact List.mem_append_left _ (hXs i hi)
        · exact List.mem_append_right _ hi
      · intro hi
        rcases List.mem_append.1 (e2 i hi) with hi | hi
        · exact List.mem_append_left _ (hall i hi)
        · exact List.mem_append_right _ hi
    refine pr_sub [(5, .map (some bm)), (44, .int .u8 k)] ⟨h5, subE_sound hI.sub 44 _ (by rw [hσ0]; rfl), trivial⟩ ?_
    refine pr_q 42 (by decide +kernel) rfl (qt_pev tok rfl) rfl rfl rfl ?_
    refine pr_q 44 (by decide +kernel) rfl (qt_lookupG (enc := kU8) tok (keyInt tok rfl) rfl rfl rfl rfl (.inl List.mem_cons_self) rfl rfl) rfl rfl rfl ?_
    refine pr_as 45 (.slice a (methL k).length c) rfl hv ?_
    refine pr_q 45 (by decide +kernel) rfl (qt_pev tok rfl) rfl rfl rfl ?_
    refine pr_end (by decide +kernel) (by decide +kernel) ?_
    repeat (first | with_reducible (first | refine run_seq ?_ | refine run_region ?_ | refine runL_nil ?_ | refine run_skip ?_ | refine run_block ?_ | refine run_inBlock ?_) | refine run_exit rfl ?_ | refine runL_q (qt_pev tok rfl) rfl rfl rfl ?_ | refine runL_g rfl rfl (qt_pev tok rfl) rfl rfl rfl rfl rfl ?_ | refine runL_q (ql tok rfl) rfl rfl rfl ?_ | refine runL_g rfl rfl (ql tok rfl) rfl rfl rfl rfl rfl ?_ | (refine runL_op0 (sst tok rfl rfl rfl rfl rfl) ?_; rintro _ _ _ ⟨rfl, rfl, rfl⟩) | (refine runL_op (st_box rfl) rfl rfl rfl ?_; rintro _ _ _ ⟨_, rfl, rfl, rfl⟩) | (refine runL_op (st_alloc tok rfl) rfl rfl rfl ?_; rintro _ _ _ ⟨_, rfl, rfl, rfl⟩) | (refine runL_op (st_buildSlice tok rfl rfl rfl rfl rfl rfl rfl) rfl rfl rfl ?_; rintro _ _ _ ⟨_, rfl, rfl, rfl⟩))
    exact run_ret hC (rs := [.tmp 4]) rfl (resT rfl resN) (fun _ h => h.drop) ⟨hI.le, rfl, a, c, rfl, hsl⟩
end Go.Proofs.Ytpjklbkfhgfmnaa
namespace Go.Proofs.Ytpjklbkfhgfmnaa
open Go.Chi

/-! ### the writer's parts -/
def wrC (br : Nat) (s : ByteArray) : List Value := [.pointer (some ⟨br, 0, none⟩), .string s]
abbrev wrB (bw br : Nat) (s : ByteArray) : Nat × Obj := (bw, .cells ⟨wrC br s⟩ 48 (0, 0))
def inC (n : Int) : List Value := [.int .i64 n]
def nsB : List Int → ByteArray
  | [] => bz
  | n :: l => nB n ++ nsB l
theorem nsB_snoc (l : List Int) (n : Int) : nsB (l ++ [n]) = nsB l ++ nB n := by
  induction l with
  | nil => show nB n ++ bz = bz ++ nB n; rw [show bz = (⟨#[]⟩ : ByteArray) from rfl, app_nil, nil_app]
  | cons x l ih => show nB x ++ nsB (l ++ [n]) = (nB x ++ nsB l) ++ nB n; rw [ih, app_assoc]
theorem nB_size {n : Int} (h : n < 4611686018427387904) : (nB n).size ≤ 9 := (numB_size (v := n.toNat) (by omega)).2
theorem nsB_size {l : List Int} (h : ∀ n ∈ l, 0 ≤ n ∧ n < 4611686018427387904) : (nsB l).size ≤ 9 * l.length := by
  induction l with
  | nil => exact Nat.le_refl _
  | cons x l ih =>
    have h1 := ih fun t ht => h t (List.mem_cons_of_mem _ ht)
    have h2 := nB_size (h x List.mem_cons_self).2
    rw [nsB, app_size, List.length_cons]
    omega
theorem SInt.at_ {M : Mem} {a : Option Addr} {len : Nat} {xs : List Int} (h : SlM M 1 a len (xs.map inC)) {j : Nat} (hj : j < len) : ∃ b off m, a = some ⟨b, off, none⟩ ∧ xs[j]? = some m ∧ Cells M [] b (off + j * 1) (inC m) := by
  obtain ⟨b, off, c, ha, hc, _, hcells⟩ := h.at_ hj
  obtain ⟨m, hm, rfl⟩ : ∃ m, xs[j]? = some m ∧ inC m = c := by simpa using hc
  exact ⟨b, off, m, ha, hm, hcells⟩
set_option maxRecDepth 10000 in
set_option maxHeartbeats 8000000 in
theorem wnums_ok (M : Mem) (L : HL) (bw br : Nat) (s : ByteArray) (a : Option Addr) (len cap : Nat) (ns : List Int) (hsl : SlM M 1 a len (ns.map inC)) (hl : len < 1000000) (hn : ∀ n ∈ ns, 0 ≤ n ∧ n < 4611686018427387904) (hs : s.size < 2305843009213693952) :
    Tr Try.prog 101 [.pointer (some ⟨bw, 0, none⟩), .slice a len cap] M (wrB bw br s :: L) (fun v M' L' => v = .tuple ⟨[]⟩ ∧ M' = M ∧ L' = wrB bw br (s ++ nsB ns) :: L) := by
  have hx1 : ns.length = len := by have := hsl.1; simpa using this
  refine Tr.intro 23 Try.func101 rfl rfl Try.call101 rfl ?_
  intro C hC hro
  repeat (first | with_reducible (first | refine run_seq ?_ | refine run_region ?_ | refine runL_nil ?_ | refine run_skip ?_ | refine run_block ?_ | refine run_inBlock ?_) | refine run_exit rfl ?_ | refine runL_q (qt_pev tok rfl) rfl rfl rfl ?_ | refine runL_g rfl rfl (qt_pev tok rfl) rfl rfl rfl rfl rfl ?_ | refine runL_q (ql tok rfl) rfl rfl rfl ?_ | refine runL_g rfl rfl (ql tok rfl) rfl rfl rfl rfl rfl ?_ | (refine runL_op0 (sst tok rfl rfl rfl rfl rfl) ?_; rintro _ _ _ ⟨rfl, rfl, rfl⟩) | (refine runL_op (st_box rfl) rfl rfl rfl ?_; rintro _ _ _ ⟨_, rfl, rfl, rfl⟩) | (refine runL_op (st_alloc tok rfl) rfl rfl rfl ?_; rintro _ _ _ ⟨_, rfl, rfl, rfl⟩) | (refine runL_op (st_buildSlice tok rfl rfl rfl rfl rfl rfl rfl) rfl rfl rfl ?_; rintro _ _ _ ⟨_, rfl, rfl, rfl⟩))
  refine run_loopN (fun j σ1 M1 L1 => j ≤ len ∧ M = M1 ∧ L1 = wrB bw br (s ++ nsB (ns.take j)) :: L ∧ σ1 = [(8, .int .i64 (j : Int)), (7, .int .i64 (len : Int)), (6, .slice a len cap), (0, .pointer (some ⟨bw, 0, none⟩))]) len [(8, .int .i64 ((0 : Nat) : Int)), (7, .int .i64 (len : Int)), (6, .slice a len cap), (0, .pointer (some ⟨bw, 0, none⟩))] ?_ ⟨Nat.zero_le _, rfl, by rw [List.take_zero, nsB, show bz = (⟨#[]⟩ : ByteArray) from rfl, app_nil], rfl⟩ (fun j _ _ _ h => h.1) ?_
  · exact ⟨rfl, rfl, rfl, rfl, trivial⟩
  rintro j _ _ _ ⟨hj, rfl, rfl, rfl⟩ hnext
  repeat (first | with_reducible (first | refine run_seq ?_ | refine run_region ?_ | refine runL_nil ?_ | refine run_skip ?_ | refine run_block ?_ | refine run_inBlock ?_) | refine run_exit rfl ?_ | refine runL_q (qt_pev tok rfl) rfl rfl rfl ?_ | refine runL_g rfl rfl (qt_pev tok rfl) rfl rfl rfl rfl rfl ?_ | refine runL_q (ql tok rfl) rfl rfl rfl ?_ | refine runL_g rfl rfl (ql tok rfl) rfl rfl rfl rfl rfl ?_ | (refine runL_op0 (sst tok rfl rfl rfl rfl rfl) ?_; rintro _ _ _ ⟨rfl, rfl, rfl⟩) | (refine runL_op (st_box rfl) rfl rfl rfl ?_; rintro _ _ _ ⟨_, rfl, rfl, rfl⟩) | (refine runL_op (st_alloc tok rfl) rfl rfl rfl ?_; rintro _ _ _ ⟨_, rfl, rfl, rfl⟩) | (refine runL_op (st_buildSlice tok rfl rfl rfl rfl rfl rfl rfl) rfl rfl rfl ?_; rintro _ _ _ ⟨_, rfl, rfl, rfl⟩))
  refine run_cond rfl (fun h => ?_) (fun h => ?_)
  · have hlt : j < len := by simpa using h
    obtain ⟨b, off, m, rfl, hm, hc⟩ := SInt.at_ hsl hlt
    have hmn := hn m (List.mem_of_getElem? hm)
    have hsz2 := nB_size hmn.2
    have hsz3 := nsB_size (l := ns.take j) fun t ht => hn t (List.mem_of_mem_take ht)
    have hsz4 : (ns.take j).length ≤ 1000000 := by rw [List.length_take]; omega
    have e1 : IntKind.u64.wrap m = ((m.toNat : Nat) : Int) := by
      rw [show m = ((m.toNat : Nat) : Int) by omega, u64_nat (by omega)]
      simp
    have e2 : (s ++ nsB (ns.take j)).size + (numB m.toNat).size < 4611686018427387904 := by
      rw [app_size]
      have : (numB m.toNat).size ≤ 9 := hsz2
      omega
    repeat (first | with_reducible (first | refine run_seq ?_ | refine run_region ?_ | refine runL_nil ?_ | refine run_skip ?_ | refine run_block ?_ | refine run_inBlock ?_) | refine run_exit rfl ?_ | refine runL_q (qt_pev tok rfl) rfl rfl rfl ?_ | refine runL_g rfl rfl (qt_pev tok rfl) rfl rfl rfl rfl rfl ?_ | refine runL_q (ql tok rfl) rfl rfl rfl ?_ | refine runL_g rfl rfl (ql tok rfl) rfl rfl rfl rfl rfl ?_ | (refine runL_op0 (sst tok rfl rfl rfl rfl rfl) ?_; rintro _ _ _ ⟨rfl, rfl, rfl⟩) | (refine runL_op (st_box rfl) rfl rfl rfl ?_; rintro _ _ _ ⟨_, rfl, rfl, rfl⟩) | (refine runL_op (st_alloc tok rfl) rfl rfl rfl ?_; rintro _ _ _ ⟨_, rfl, rfl, rfl⟩) | (refine runL_op (st_buildSlice tok rfl rfl rfl rfl rfl rfl rfl) rfl rfl rfl ?_; rintro _ _ _ ⟨_, rfl, rfl, rfl⟩) | refine runL_q (qt_indexN tok rfl rfl rfl rfl (fun _ => by omega)) rfl rfl rfl ?_ | refine runL_g rfl rfl (qt_indexN tok rfl rfl rfl rfl (fun _ => by omega)) rfl rfl rfl rfl rfl ?_ | refine runL_q (qt_ldM tok rfl hc rfl) rfl rfl rfl ?_ | refine runL_g rfl rfl (qt_ldM tok rfl hc rfl) rfl rfl rfl rfl rfl ?_ | refine runL_q (qt_ldM0 tok rfl hc rfl) rfl rfl rfl ?_ | refine runL_g rfl rfl (qt_ldM0 tok rfl hc rfl) rfl rfl rfl rfl rfl ?_)
    repeat (first | with_reducible (first | refine run_seq ?_ | refine run_region ?_ | refine runL_nil ?_ | refine run_skip ?_ | refine run_block ?_ | refine run_inBlock ?_) | refine run_exit rfl ?_ | refine runL_q (qt_pev tok rfl) rfl rfl rfl ?_ | refine runL_g rfl rfl (qt_pev tok rfl) rfl rfl rfl rfl rfl ?_ | refine runL_q (ql tok rfl) rfl rfl rfl ?_ | refine runL_g rfl rfl (ql tok rfl) rfl rfl rfl rfl rfl ?_ | (refine runL_op0 (sst tok rfl rfl rfl rfl rfl) ?_; rintro _ _ _ ⟨rfl, rfl, rfl⟩) | (refine runL_op (st_box rfl) rfl rfl rfl ?_; rintro _ _ _ ⟨_, rfl, rfl, rfl⟩) | (refine runL_op (st_alloc tok rfl) rfl rfl rfl ?_; rintro _ _ _ ⟨_, rfl, rfl, rfl⟩) | (refine runL_op (st_buildSlice tok rfl rfl rfl rfl rfl rfl rfl) rfl rfl rfl ?_; rintro _ _ _ ⟨_, rfl, rfl, rfl⟩) | refine prn_start mixed ?_ | refine prn_end (by decide +kernel) ?_ | refine prn_q rfl (qt_pev tok rfl) (by decide +kernel) rfl rfl rfl ?_ | refine prn_g rfl rfl rfl (qt_pev tok rfl) (by decide +kernel) rfl rfl rfl rfl rfl ?_ | refine prn_q rfl (ql tok rfl) (by decide +kernel) rfl rfl rfl ?_ | refine prn_g rfl rfl rfl (ql tok rfl) (by decide +kernel) rfl rfl rfl rfl rfl ?_ | (refine prn_e0 rfl (sst tok rfl rfl rfl rfl rfl) (by decide +kernel) ?_; rintro _ _ _ ⟨rfl, rfl, rfl⟩) | (refine prn_e1 rfl (st_box rfl) (by decide +kernel) rfl rfl rfl ?_; rintro _ _ _ ⟨_, rfl, rfl, rfl⟩) | (refine prn_e1 rfl (st_alloc tok rfl) (by decide +kernel) rfl rfl rfl ?_; rintro _ _ _ ⟨_, rfl, rfl, rfl⟩) | (refine prn_e1 rfl (st_buildSlice tok rfl rfl rfl rfl rfl rfl rfl) (by decide +kernel) rfl rfl rfl ?_; rintro _ _ _ ⟨_, rfl, rfl, rfl⟩) | (refine prn_o0 rfl (sst tok rfl rfl rfl rfl rfl) (by decide +kernel) ?_; rintro _ _ _ ⟨rfl, rfl, rfl⟩; refine ⟨by (repeat (first | exact trivial | refine And.intro (pend_q rfl rfl rfl (qt_pev tok rfl)) ?_ | refine And.intro (pend_q rfl rfl rfl (ql tok rfl)) ?_)), ?_⟩) | (refine prn_o1 rfl (st_box rfl) (by decide +kernel) rfl rfl rfl ?_; rintro _ _ _ ⟨_, rfl, rfl, rfl⟩; refine ⟨by (repeat (first | exact trivial | refine And.intro (pend_q rfl rfl rfl (qt_pev tok rfl)) ?_ | refine And.intro (pend_q rfl rfl rfl (ql tok rfl)) ?_)), ?_⟩) | (refine prn_o1 rfl (st_alloc tok rfl) (by decide +kernel) rfl rfl rfl ?_; rintro _ _ _ ⟨_, rfl, rfl, rfl⟩; refine ⟨by (repeat (first | exact trivial | refine And.intro (pend_q rfl rfl rfl (qt_pev tok rfl)) ?_ | refine And.intro (pend_q rfl rfl rfl (ql tok rfl)) ?_)), ?_⟩) | (refine prn_o1 rfl (st_buildSlice tok rfl rfl rfl rfl rfl rfl rfl) (by decide +kernel) rfl rfl rfl ?_; rintro _ _ _ ⟨_, rfl, rfl, rfl⟩; refine ⟨by (repeat (first | exact trivial | refine And.intro (pend_q rfl rfl rfl (qt_pev tok rfl)) ?_ | refine And.intro (pend_q rfl rfl rfl (ql tok rfl)) ?_)), ?_⟩) | (refine prn_e1 rfl (qt_pev tok rfl) (by decide +kernel) rfl rfl rfl ?_; rintro _ _ _ ⟨rfl, rfl, rfl⟩) | refine prn_q rfl (qt_indexN tok rfl rfl rfl rfl (fun _ => by omega)) (by decide +kernel) rfl rfl rfl ?_ | refine prn_gK rfl rfl rfl (qt_indexN tok rfl rfl rfl rfl (fun _ => by omega)) (by decide +kernel) rfl rfl rfl ?_ | refine prn_gF rfl rfl rfl (by decide +kernel) rfl rfl rfl ?_ | refine prn_g rfl rfl rfl (qt_indexN tok rfl rfl rfl rfl (fun _ => by omega)) (by decide +kernel) rfl rfl rfl rfl rfl ?_ | refine prn_q rfl (qt_ldM tok rfl hc rfl) (by decide +kernel) rfl rfl rfl ?_ | refine prn_gK rfl rfl rfl (qt_ldM tok rfl hc rfl) (by decide +kernel) rfl rfl rfl ?_ | refine prn_gF rfl rfl rfl (by decide +kernel) rfl rfl rfl ?_ | refine prn_g rfl rfl rfl (qt_ldM tok rfl hc rfl) (by decide +kernel) rfl rfl rfl rfl rfl ?_ | refine prn_q rfl (qt_ldM0 tok rfl hc rfl) (by decide +kernel) rfl rfl rfl ?_ | refine prn_gK rfl rfl rfl (qt_ldM0 tok rfl hc rfl) (by decide +kernel) rfl rfl rfl ?_ | refine prn_gF rfl rfl rfl (by decide +kernel) rfl rfl rfl ?_ | refine prn_g rfl rfl rfl (qt_ldM0 tok rfl hc rfl) (by decide +kernel) rfl rfl rfl rfl rfl ?_)
    refine pr_as 17 (.int .u64 ((m.toNat : Nat) : Int)) rfl (by rw [e1]) ?_
    repeat (first | with_reducible (first | refine run_seq ?_ | refine run_region ?_ | refine runL_nil ?_ | refine run_skip ?_ | refine run_block ?_ | refine run_inBlock ?_) | refine run_exit rfl ?_ | refine runL_q (qt_pev tok rfl) rfl rfl rfl ?_ | refine runL_g rfl rfl (qt_pev tok rfl) rfl rfl rfl rfl rfl ?_ | refine runL_q (ql tok rfl) rfl rfl rfl ?_ | refine runL_g rfl rfl (ql tok rfl) rfl rfl rfl rfl rfl ?_ | (refine runL_op0 (sst tok rfl rfl rfl rfl rfl) ?_; rintro _ _ _ ⟨rfl, rfl, rfl⟩) | (refine runL_op (st_box rfl) rfl rfl rfl ?_; rintro _ _ _ ⟨_, rfl, rfl, rfl⟩) | (refine runL_op (st_alloc tok rfl) rfl rfl rfl ?_; rintro _ _ _ ⟨_, rfl, rfl, rfl⟩) | (refine runL_op (st_buildSlice tok rfl rfl rfl rfl rfl rfl rfl) rfl rfl rfl ?_; rintro _ _ _ ⟨_, rfl, rfl, rfl⟩) | refine prn_start mixed ?_ | refine prn_end (by decide +kernel) ?_ | refine prn_q rfl (qt_pev tok rfl) (by decide +kernel) rfl rfl rfl ?_ | refine prn_g rfl rfl rfl (qt_pev tok rfl) (by decide +kernel) rfl rfl rfl rfl rfl ?_ | refine prn_q rfl (ql tok rfl) (by decide +kernel) rfl rfl rfl ?_ | refine prn_g rfl rfl rfl (ql tok rfl) (by decide +kernel) rfl rfl rfl rfl rfl ?_ | (refine prn_e0 rfl (sst tok rfl rfl rfl rfl rfl) (by decide +kernel) ?_; rintro _ _ _ ⟨rfl, rfl, rfl⟩) | (refine prn_e1 rfl (st_box rfl) (by decide +kernel) rfl rfl rfl ?_; rintro _ _ _ ⟨_, rfl, rfl, rfl⟩) | (refine prn_e1 rfl (st_alloc tok rfl) (by decide +kernel) rfl rfl rfl ?_; rintro _ _ _ ⟨_, rfl, rfl, rfl⟩) | (refine prn_e1 rfl (st_buildSlice tok rfl rfl rfl rfl rfl rfl rfl) (by decide +kernel) rfl rfl rfl ?_; rintro _ _ _ ⟨_, rfl, rfl, rfl⟩) | (refine prn_o0 rfl (sst tok rfl rfl rfl rfl rfl) (by decide +kernel) ?_; rintro _ _ _ ⟨rfl, rfl, rfl⟩; refine ⟨by (repeat (first | exact trivial | refine And.intro (pend_q rfl rfl rfl (qt_pev tok rfl)) ?_ | refine And.intro (pend_q rfl rfl rfl (ql tok rfl)) ?_)), ?_⟩) | (refine prn_o1 rfl (st_box rfl) (by decide +kernel) rfl rfl rfl ?_; rintro _ _ _ ⟨_, rfl, rfl, rfl⟩; refine ⟨by (repeat (first | exact trivial | refine And.intro (pend_q rfl rfl rfl (qt_pev tok rfl)) ?_ | refine And.intro (pend_q rfl rfl rfl (ql tok rfl)) ?_)), ?_⟩) | (refine prn_o1 rfl (st_alloc tok rfl) (by decide +kernel) rfl rfl rfl ?_; rintro _ _ _ ⟨_, rfl, rfl, rfl⟩; refine ⟨by (repeat (first | exact trivial | refine And.intro (pend_q rfl rfl rfl (qt_pev tok rfl)) ?_ | refine And.intro (pend_q rfl rfl rfl (ql tok rfl)) ?_)), ?_⟩) | (refine prn_o1 rfl (st_buildSlice tok rfl rfl rfl rfl rfl rfl rfl) (by decide +kernel) rfl rfl rfl ?_; rintro _ _ _ ⟨_, rfl, rfl, rfl⟩; refine ⟨by (repeat (first | exact trivial | refine And.intro (pend_q rfl rfl rfl (qt_pev tok rfl)) ?_ | refine And.intro (pend_q rfl rfl rfl (ql tok rfl)) ?_)), ?_⟩) | (refine prn_e1 rfl (qt_pev tok rfl) (by decide +kernel) rfl rfl rfl ?_; rintro _ _ _ ⟨rfl, rfl, rfl⟩) | refine prn_q rfl (qt_callF rfl (fun _ => onum_ok _ _ m.toNat (by omega))) (by decide +kernel) rfl rfl rfl ?_ | refine prn_q rfl (qt_concat rfl rfl e2) (by decide +kernel) rfl rfl rfl ?_)
    refine run_sub' (hnext _ _ _ ⟨hlt, rfl, ?_, rfl⟩) ⟨lk_succ rfl (by omega), rfl, rfl, rfl, trivial⟩
    rw [take_snoc hm, nsB_snoc, ← app_assoc]
    rfl
  · have hge : j = len := by simp at h; omega
    subst hge
    repeat (first | with_reducible (first | refine run_seq ?_ | refine run_region ?_ | refine runL_nil ?_ | refine run_skip ?_ | refine run_block ?_ | refine run_inBlock ?_) | refine run_exit rfl ?_ | refine runL_q (qt_pev tok rfl) rfl rfl rfl ?_ | refine runL_g rfl rfl (qt_pev tok rfl) rfl rfl rfl rfl rfl ?_ | refine runL_q (ql tok rfl) rfl rfl rfl ?_ | refine runL_g rfl rfl (ql tok rfl) rfl rfl rfl rfl rfl ?_ | (refine runL_op0 (sst tok rfl rfl rfl rfl rfl) ?_; rintro _ _ _ ⟨rfl, rfl, rfl⟩) | (refine runL_op (st_box rfl) rfl rfl rfl ?_; rintro _ _ _ ⟨_, rfl, rfl, rfl⟩) | (refine runL_op (st_alloc tok rfl) rfl rfl rfl ?_; rintro _ _ _ ⟨_, rfl, rfl, rfl⟩) | (refine runL_op (st_buildSlice tok rfl rfl rfl rfl rfl rfl rfl) rfl rfl rfl ?_; rintro _ _ _ ⟨_, rfl, rfl, rfl⟩))
    exact run_end hC (rs := []) rfl resN (fun _ h => h) ⟨rfl, rfl, by rw [List.take_of_length_le (by omega)]⟩
set_option maxRecDepth 10000 in
set_option maxHeartbeats 8000000 in
theorem wauditor_ok (M : Mem) (L : HL) (bw br : Nat) (s : ByteArray) (r : Rc) (hr : Cells M [] br 0 (rcC r)) (hn : 0 ≤ r.auditor ∧ r.auditor < 4611686018427387904) (hs : s.size < 2305843009213693952) :
    Tr Try.prog 94 [.pointer (some ⟨bw, 0, none⟩)] M (wrB bw br s :: L) (fun v M' L' => v = .tuple ⟨[]⟩ ∧ M.le M' ∧ L' = wrB bw br (s ++ nB r.auditor) :: L) := by
  refine Tr.intro 12 Try.func94 rfl rfl Try.call94 rfl ?_
  intro C hC hro
  refine run_region ?_
  iterate 8 (first | refine runL_q (qt_pev tok rfl) rfl rfl rfl ?_ | refine runL_gK rfl rfl (qt_pev tok rfl) rfl rfl rfl ?_ | refine runL_gF rfl rfl rfl rfl rfl ?_ | refine runL_g rfl rfl (qt_pev tok rfl) rfl rfl rfl rfl rfl ?_ | refine runL_q (ql tok rfl) rfl rfl rfl ?_ | refine runL_gK rfl rfl (ql tok rfl) rfl rfl rfl ?_ | refine runL_gF rfl rfl rfl rfl rfl ?_ | refine runL_g rfl rfl (ql tok rfl) rfl rfl rfl rfl rfl ?_ | (refine runL_op0 (sst tok rfl rfl rfl rfl rfl) ?_; rintro _ _ _ ⟨rfl, rfl, rfl⟩) | (refine runL_op (st_box rfl) rfl rfl rfl ?_; rintro _ _ _ ⟨_, rfl, rfl, rfl⟩) | (refine runL_op (st_alloc tok rfl) rfl rfl rfl ?_; rintro _ _ _ ⟨_, rfl, rfl, rfl⟩) | (refine runL_op (st_buildSlice tok rfl rfl rfl rfl rfl rfl rfl) rfl rfl rfl ?_; rintro _ _ _ ⟨_, rfl, rfl, rfl⟩) | refine runL_q (qt_ldM (k := 6) tok rfl hr rfl) rfl rfl rfl ?_)
  refine runL_op (St.frz1 (V := fun b => .slice (some ⟨b, 0, none⟩) 1 1) (st_buildSlice tok rfl rfl rfl rfl rfl rfl rfl)) rfl rfl rfl ?_
  rintro _ M1 _ ⟨hM1, rfl, bs, rfl, hbs⟩
  have hsl := SlM.ofBlk (M := M1) (b := bs) (size := 1) (ls := [inC r.auditor]) hbs rfl (by simp [inC])
  refine runL_op (st_callF rfl (fun _ => wnums_ok M1 L bw br s _ 1 1 [r.auditor] (by simpa using hsl) (by omega) (by simpa using hn) hs)) rfl rfl rfl ?_
  rintro _ _ _ ⟨rfl, rfl, rfl⟩
  repeat (first | with_reducible (first | refine run_seq ?_ | refine run_region ?_ | refine runL_nil ?_ | refine run_skip ?_ | refine run_block ?_ | refine run_inBlock ?_) | refine run_exit rfl ?_ | refine runL_q (qt_pev tok rfl) rfl rfl rfl ?_ | refine runL_g rfl rfl (qt_pev tok rfl) rfl rfl rfl rfl rfl ?_ | refine runL_q (ql tok rfl) rfl rfl rfl ?_ | refine runL_g rfl rfl (ql tok rfl) rfl rfl rfl rfl rfl ?_ | (refine runL_op0 (sst tok rfl rfl rfl rfl rfl) ?_; rintro _ _ _ ⟨rfl, rfl, rfl⟩) | (refine runL_op (st_box rfl) rfl rfl rfl ?_; rintro _ _ _ ⟨_, rfl, rfl, rfl⟩) | (refine runL_op (st_alloc tok rfl) rfl rfl rfl ?_; rintro _ _ _ ⟨_, rfl, rfl, rfl⟩) | (refine runL_op (st_buildSlice tok rfl rfl rfl rfl rfl rfl rfl) rfl rfl rfl ?_; rintro _ _ _ ⟨_, rfl, rfl, rfl⟩))
  exact run_end hC (rs := []) rfl resN (fun _ h => h) ⟨rfl, hM1, by rw [nsB, nsB, show bz = (⟨#[]⟩ : ByteArray) from rfl, app_nil]⟩
end Go.Proofs.Ytpjklbkfhgfmnaa
namespace Go.Proofs.Ytpjklbkfhgfmnaa
open Go.Chi

theorem wnumsG (M : Mem) (L : HL) (bw br : Nat) (s : ByteArray) (b et len : Nat) (cs : List Value) (ns : List Int) (hcs : cs = (ns.map inC).flatten) (hl : ns.length = len) (hlt : len < 1000000) (hn : ∀ n ∈ ns, 0 ≤ n ∧ n < 4611686018427387904) (hs : s.size < 2305843009213693952) :
    Tr Try.prog 101 [.pointer (some ⟨bw, 0, none⟩), .slice (some ⟨b, 0, none⟩) len len] M ((b, .cells ⟨cs⟩ et (0, 0)) :: wrB bw br s :: L) (fun v M' L' => v = .tuple ⟨[]⟩ ∧ M.le M' ∧ L' = wrB bw br (s ++ nsB ns) :: L) :=
  Tr.give (N := [(b, .cells ⟨cs⟩ et (0, 0))]) (fun w => Try.call101 _ w) fun M' hM hb => by
    have hsl := SlM.ofBlk (M := M') (b := b) (size := 1) (ls := ns.map inC) (hb b _ List.mem_cons_self) hcs (by simp [inC])
    rw [List.length_map, hl] at hsl
    exact (wnums_ok M' L bw br s _ len len ns hsl hlt hn hs).mono fun _ _ _ ⟨h1, h2, h3⟩ => ⟨h1, h2 ▸ hM, h3⟩
theorem nsB_one (n : Int) : nsB [n] = nB n := by rw [nsB, nsB, show bz = (⟨#[]⟩ : ByteArray) from rfl, app_nil]
theorem nsB_tx (t : Tx) : nsB [t.coord, t.epoch, t.seq] = txB t := by rw [nsB, nsB, nsB_one]; rfl
set_option maxRecDepth 10000 in
set_option maxHeartbeats 8000000 in
theorem wepoch_ok (M : Mem) (L : HL) (bw br : Nat) (s : ByteArray) (r : Rc) (hr : Cells M [] br 0 (rcC r)) (hn : 0 ≤ r.epoch ∧ r.epoch < 4611686018427387904) (hs : s.size < 2305843009213693952) :
    Tr Try.prog 96 [.pointer (some ⟨bw, 0, none⟩)] M (wrB bw br s :: L) (fun v M' L' => v = .tuple ⟨[]⟩ ∧ M.le M' ∧ L' = wrB bw br (s ++ nB r.epoch) :: L) := by
  refine Tr.intro 12 Try.func96 rfl rfl Try.call96 rfl ?_
  intro C hC hro
  refine run_region ?_
  iterate 8 (first | refine runL_q (qt_pev tok rfl) rfl rfl rfl ?_ | refine runL_gK rfl rfl (qt_pev tok rfl) rfl rfl rfl ?_ | refine runL_gF rfl rfl rfl rfl rfl ?_ | refine runL_g rfl rfl (qt_pev tok rfl) rfl rfl rfl rfl rfl ?_ | refine runL_q (ql tok rfl) rfl rfl rfl ?_ | refine runL_gK rfl rfl (ql tok rfl) rfl rfl rfl ?_ | refine runL_gF rfl rfl rfl rfl rfl ?_ | refine runL_g rfl rfl (ql tok rfl) rfl rfl rfl rfl rfl ?_ | (refine runL_op0 (sst tok rfl rfl rfl rfl rfl) ?_; rintro _ _ _ ⟨rfl, rfl, rfl⟩) | (refine runL_op (st_box rfl) rfl rfl rfl ?_; rintro _ _ _ ⟨_, rfl, rfl, rfl⟩) | (refine runL_op (st_alloc tok rfl) rfl rfl rfl ?_; rintro _ _ _ ⟨_, rfl, rfl, rfl⟩) | (refine runL_op (st_buildSlice tok rfl rfl rfl rfl rfl rfl rfl) rfl rfl rfl ?_; rintro _ _ _ ⟨_, rfl, rfl, rfl⟩) | refine runL_q (qt_ldM (k := 1) tok rfl hr rfl) rfl rfl rfl ?_)
  refine runL_op (St.frz1 (V := fun b => .slice (some ⟨b, 0, none⟩) 1 1) (st_buildSlice tok rfl rfl rfl rfl rfl rfl rfl)) rfl rfl rfl ?_
  rintro _ M1 _ ⟨hM1, rfl, bs, rfl, hbs⟩
  have hsl := SlM.ofBlk (M := M1) (b := bs) (size := 1) (ls := [inC r.epoch]) hbs rfl (by simp [inC])
  refine runL_op (st_callF rfl (fun _ => wnums_ok M1 L bw br s _ 1 1 [r.epoch] (by simpa using hsl) (by omega) (by simpa using hn) hs)) rfl rfl rfl ?_
  rintro _ _ _ ⟨rfl, rfl, rfl⟩
  repeat (first | with_reducible (first | refine run_seq ?_ | refine run_region ?_ | refine runL_nil ?_ | refine run_skip ?_ | refine run_block ?_ | refine run_inBlock ?_) | refine run_exit rfl ?_ | refine runL_q (qt_pev tok rfl) rfl rfl rfl ?_ | refine runL_g rfl rfl (qt_pev tok rfl) rfl rfl rfl rfl rfl ?_ | refine runL_q (ql tok rfl) rfl rfl rfl ?_ | refine runL_g rfl rfl (ql tok rfl) rfl rfl rfl rfl rfl ?_ | (refine runL_op0 (sst tok rfl rfl rfl rfl rfl) ?_; rintro _ _ _ ⟨rfl, rfl, rfl⟩) | (refine runL_op (st_box rfl) rfl rfl rfl ?_; rintro _ _ _ ⟨_, rfl, rfl, rfl⟩) | (refine runL_op (st_alloc tok rfl) rfl rfl rfl ?_; rintro _ _ _ ⟨_, rfl, rfl, rfl⟩) | (refine runL_op (st_buildSlice tok rfl rfl rfl rfl rfl rfl rfl) rfl rfl rfl ?_; rintro _ _ _ ⟨_, rfl, rfl, rfl⟩))
  exact run_end hC (rs := []) rfl resN (fun _ h => h) ⟨rfl, hM1, by rw [nsB, nsB, show bz = (⟨#[]⟩ : ByteArray) from rfl, app_nil]⟩
set_option maxRecDepth 10000 in
set_option maxHeartbeats 8000000 in
theorem wyes_ok (M : Mem) (L : HL) (bw br : Nat) (s : ByteArray) (r : Rc) (hr : Cells M [] br 0 (rcC r)) (hs : s.size < 2305843009213693952) :
    Tr Try.prog 100 [.pointer (some ⟨bw, 0, none⟩)] M (wrB bw br s :: L) (fun v M' L' => v = .tuple ⟨[]⟩ ∧ M.le M' ∧ L' = wrB bw br (s ++ yB r.yes) :: L) := by
  refine Tr.intro 15 Try.func100 rfl rfl Try.call100 rfl ?_
  intro C hC hro
  repeat (first | with_reducible (first | refine run_seq ?_ | refine run_region ?_ | refine runL_nil ?_ | refine run_skip ?_ | refine run_block ?_ | refine run_inBlock ?_) | refine run_exit rfl ?_ | refine runL_q (qt_pev tok rfl) rfl rfl rfl ?_ | refine runL_g rfl rfl (qt_pev tok rfl) rfl rfl rfl rfl rfl ?_ | refine runL_q (ql tok rfl) rfl rfl rfl ?_ | refine runL_g rfl rfl (ql tok rfl) rfl rfl rfl rfl rfl ?_ | (refine runL_op0 (sst tok rfl rfl rfl rfl rfl) ?_; rintro _ _ _ ⟨rfl, rfl, rfl⟩) | (refine runL_op (st_box rfl) rfl rfl rfl ?_; rintro _ _ _ ⟨_, rfl, rfl, rfl⟩) | (refine runL_op (st_alloc tok rfl) rfl rfl rfl ?_; rintro _ _ _ ⟨_, rfl, rfl, rfl⟩) | (refine runL_op (st_buildSlice tok rfl rfl rfl rfl rfl rfl rfl) rfl rfl rfl ?_; rintro _ _ _ ⟨_, rfl, rfl, rfl⟩) | refine runL_q (qt_ldM (k := 5) tok rfl hr rfl) rfl rfl rfl ?_)
  refine run_cond rfl (fun h => ?_) (fun h => ?_)
  · repeat (first | with_reducible (first | refine run_seq ?_ | refine run_region ?_ | refine runL_nil ?_ | refine run_skip ?_ | refine run_block ?_ | refine run_inBlock ?_) | refine run_exit rfl ?_ | refine runL_q (qt_pev tok rfl) rfl rfl rfl ?_ | refine runL_g rfl rfl (qt_pev tok rfl) rfl rfl rfl rfl rfl ?_ | refine runL_q (ql tok rfl) rfl rfl rfl ?_ | refine runL_g rfl rfl (ql tok rfl) rfl rfl rfl rfl rfl ?_ | (refine runL_op0 (sst tok rfl rfl rfl rfl rfl) ?_; rintro _ _ _ ⟨rfl, rfl, rfl⟩) | (refine runL_op (st_box rfl) rfl rfl rfl ?_; rintro _ _ _ ⟨_, rfl, rfl, rfl⟩) | (refine runL_op (st_alloc tok rfl) rfl rfl rfl ?_; rintro _ _ _ ⟨_, rfl, rfl, rfl⟩) | (refine runL_op (st_buildSlice tok rfl rfl rfl rfl rfl rfl rfl) rfl rfl rfl ?_; rintro _ _ _ ⟨_, rfl, rfl, rfl⟩) | refine runL_op (st_callF rfl (fun _ => wnumsG _ L bw br s _ _ _ _ [1] rfl rfl (by decide) (by decide) hs)) rfl rfl rfl ?_; rintro _ M1 _ ⟨rfl, hM1, rfl⟩)
    exact run_end hC (rs := []) rfl resN (fun _ h => h) ⟨rfl, hM1, by rw [nsB_one, yB, if_pos h]⟩
  · repeat (first | with_reducible (first | refine run_seq ?_ | refine run_region ?_ | refine runL_nil ?_ | refine run_skip ?_ | refine run_block ?_ | refine run_inBlock ?_) | refine run_exit rfl ?_ | refine runL_q (qt_pev tok rfl) rfl rfl rfl ?_ | refine runL_g rfl rfl (qt_pev tok rfl) rfl rfl rfl rfl rfl ?_ | refine runL_q (ql tok rfl) rfl rfl rfl ?_ | refine runL_g rfl rfl (ql tok rfl) rfl rfl rfl rfl rfl ?_ | (refine runL_op0 (sst tok rfl rfl rfl rfl rfl) ?_; rintro _ _ _ ⟨rfl, rfl, rfl⟩) | (refine runL_op (st_box rfl) rfl rfl rfl ?_; rintro _ _ _ ⟨_, rfl, rfl, rfl⟩) | (refine runL_op (st_alloc tok rfl) rfl rfl rfl ?_; rintro _ _ _ ⟨_, rfl, rfl, rfl⟩) | (refine runL_op (st_buildSlice tok rfl rfl rfl rfl rfl rfl rfl) rfl rfl rfl ?_; rintro _ _ _ ⟨_, rfl, rfl, rfl⟩) | refine runL_op (st_callF rfl (fun _ => wnumsG _ L bw br s _ _ _ _ [0] rfl rfl (by decide) (by decide) hs)) rfl rfl rfl ?_; rintro _ M1 _ ⟨rfl, hM1, rfl⟩)
    exact run_end hC (rs := []) rfl resN (fun _ h => h) ⟨rfl, hM1, by rw [nsB_one, yB, if_neg (by rw [h]; decide)]⟩
set_option maxRecDepth 10000 in
set_option maxHeartbeats 8000000 in
theorem wtxn_ok (M : Mem) (L : HL) (bw br : Nat) (s : ByteArray) (r : Rc) (hr : Cells M [] br 0 (rcC r)) (hn : mayTx r.txn = true) (hs : s.size < 2305843009213693952) :
    Tr Try.prog 99 [.pointer (some ⟨bw, 0, none⟩)] M (wrB bw br s :: L) (fun v M' L' => v = .tuple ⟨[]⟩ ∧ M.le M' ∧ L' = wrB bw br (s ++ txB r.txn) :: L) := by
  refine Tr.intro 29 Try.func99 rfl rfl Try.call99 rfl ?_
  intro C hC hro
  repeat (first | with_reducible (first | refine run_seq ?_ | refine run_region ?_ | refine runL_nil ?_ | refine run_skip ?_ | refine run_block ?_ | refine run_inBlock ?_) | refine run_exit rfl ?_ | refine runL_q (qt_pev tok rfl) rfl rfl rfl ?_ | refine runL_g rfl rfl (qt_pev tok rfl) rfl rfl rfl rfl rfl ?_ | refine runL_q (ql tok rfl) rfl rfl rfl ?_ | refine runL_g rfl rfl (ql tok rfl) rfl rfl rfl rfl rfl ?_ | (refine runL_op0 (sst tok rfl rfl rfl rfl rfl) ?_; rintro _ _ _ ⟨rfl, rfl, rfl⟩) | (refine runL_op (st_box rfl) rfl rfl rfl ?_; rintro _ _ _ ⟨_, rfl, rfl, rfl⟩) | (refine runL_op (st_alloc tok rfl) rfl rfl rfl ?_; rintro _ _ _ ⟨_, rfl, rfl, rfl⟩) | (refine runL_op (st_buildSlice tok rfl rfl rfl rfl rfl rfl rfl) rfl rfl rfl ?_; rintro _ _ _ ⟨_, rfl, rfl, rfl⟩) | refine prn_start mixed ?_ | refine prn_end (by decide +kernel) ?_ | refine prn_q rfl (qt_pev tok rfl) (by decide +kernel) rfl rfl rfl ?_ | refine prn_g rfl rfl rfl (qt_pev tok rfl) (by decide +kernel) rfl rfl rfl rfl rfl ?_ | refine prn_q rfl (ql tok rfl) (by decide +kernel) rfl rfl rfl ?_ | refine prn_g rfl rfl rfl (ql tok rfl) (by decide +kernel) rfl rfl rfl rfl rfl ?_ | (refine prn_e0 rfl (sst tok rfl rfl rfl rfl rfl) (by decide +kernel) ?_; rintro _ _ _ ⟨rfl, rfl, rfl⟩) | (refine prn_e1 rfl (st_box rfl) (by decide +kernel) rfl rfl rfl ?_; rintro _ _ _ ⟨_, rfl, rfl, rfl⟩) | (refine prn_e1 rfl (st_alloc tok rfl) (by decide +kernel) rfl rfl rfl ?_; rintro _ _ _ ⟨_, rfl, rfl, rfl⟩) | (refine prn_e1 rfl (st_buildSlice tok rfl rfl rfl rfl rfl rfl rfl) (by decide +kernel) rfl rfl rfl ?_; rintro _ _ _ ⟨_, rfl, rfl, rfl⟩) | (refine prn_o0 rfl (sst tok rfl rfl rfl rfl rfl) (by decide +kernel) ?_; rintro _ _ _ ⟨rfl, rfl, rfl⟩; refine ⟨by (repeat (first | exact trivial | refine And.intro (pend_q rfl rfl rfl (qt_pev tok rfl)) ?_ | refine And.intro (pend_q rfl rfl rfl (ql tok rfl)) ?_)), ?_⟩) | (refine prn_o1 rfl (st_box rfl) (by decide +kernel) rfl rfl rfl ?_; rintro _ _ _ ⟨_, rfl, rfl, rfl⟩; refine ⟨by (repeat (first | exact trivial | refine And.intro (pend_q rfl rfl rfl (qt_pev tok rfl)) ?_ | refine And.intro (pend_q rfl rfl rfl (ql tok rfl)) ?_)), ?_⟩) | (refine prn_o1 rfl (st_alloc tok rfl) (by decide +kernel) rfl rfl rfl ?_; rintro _ _ _ ⟨_, rfl, rfl, rfl⟩; refine ⟨by (repeat (first | exact trivial | refine And.intro (pend_q rfl rfl rfl (qt_pev tok rfl)) ?_ | refine And.intro (pend_q rfl rfl rfl (ql tok rfl)) ?_)), ?_⟩) | (refine prn_o1 rfl (st_buildSlice tok rfl rfl rfl rfl rfl rfl rfl) (by decide +kernel) rfl rfl rfl ?_; rintro _ _ _ ⟨_, rfl, rfl, rfl⟩; refine ⟨by (repeat (first | exact trivial | refine And.intro (pend_q rfl rfl rfl (qt_pev tok rfl)) ?_ | refine And.intro (pend_q rfl rfl rfl (ql tok rfl)) ?_)), ?_⟩) | (refine prn_e1 rfl (qt_pev tok rfl) (by decide +kernel) rfl rfl rfl ?_; rintro _ _ _ ⟨rfl, rfl, rfl⟩) | refine prn_q rfl (qt_ldM (k := 2) tok rfl hr rfl) (by decide +kernel) rfl rfl rfl ?_ | refine prn_q rfl (qt_ldM (k := 3) tok rfl hr rfl) (by decide +kernel) rfl rfl rfl ?_ | refine prn_q rfl (qt_ldM (k := 4) tok rfl hr rfl) (by decide +kernel) rfl rfl rfl ?_)
  have h1 := mayTx_r hn
  refine prn_e1 rfl (st_callF rfl (fun _ => wnumsG _ L bw br s _ _ _ _ [r.txn.coord, r.txn.epoch, r.txn.seq] rfl rfl (by decide) (by simp; omega) hs)) (by decide +kernel) rfl rfl rfl ?_
  rintro _ M1 _ ⟨rfl, hM1, rfl⟩
  repeat (first | with_reducible (first | refine run_seq ?_ | refine run_region ?_ | refine runL_nil ?_ | refine run_skip ?_ | refine run_block ?_ | refine run_inBlock ?_) | refine run_exit rfl ?_ | refine runL_q (qt_pev tok rfl) rfl rfl rfl ?_ | refine runL_g rfl rfl (qt_pev tok rfl) rfl rfl rfl rfl rfl ?_ | refine runL_q (ql tok rfl) rfl rfl rfl ?_ | refine runL_g rfl rfl (ql tok rfl) rfl rfl rfl rfl rfl ?_ | (refine runL_op0 (sst tok rfl rfl rfl rfl rfl) ?_; rintro _ _ _ ⟨rfl, rfl, rfl⟩) | (refine runL_op (st_box rfl) rfl rfl rfl ?_; rintro _ _ _ ⟨_, rfl, rfl, rfl⟩) | (refine runL_op (st_alloc tok rfl) rfl rfl rfl ?_; rintro _ _ _ ⟨_, rfl, rfl, rfl⟩) | (refine runL_op (st_buildSlice tok rfl rfl rfl rfl rfl rfl rfl) rfl rfl rfl ?_; rintro _ _ _ ⟨_, rfl, rfl, rfl⟩) | refine prn_start mixed ?_ | refine prn_end (by decide +kernel) ?_ | refine prn_q rfl (qt_pev tok rfl) (by decide +kernel) rfl rfl rfl ?_ | refine prn_g rfl rfl rfl (qt_pev tok rfl) (by decide +kernel) rfl rfl rfl rfl rfl ?_ | refine prn_q rfl (ql tok rfl) (by decide +kernel) rfl rfl rfl ?_ | refine prn_g rfl rfl rfl (ql tok rfl) (by decide +kernel) rfl rfl rfl rfl rfl ?_ | (refine prn_e0 rfl (sst tok rfl rfl rfl rfl rfl) (by decide +kernel) ?_; rintro _ _ _ ⟨rfl, rfl, rfl⟩) | (refine prn_e1 rfl (st_box rfl) (by decide +kernel) rfl rfl rfl ?_; rintro _ _ _ ⟨_, rfl, rfl, rfl⟩) | (refine prn_e1 rfl (st_alloc tok rfl) (by decide +kernel) rfl rfl rfl ?_; rintro _ _ _ ⟨_, rfl, rfl, rfl⟩) | (refine prn_e1 rfl (st_buildSlice tok rfl rfl rfl rfl rfl rfl rfl) (by decide +kernel) rfl rfl rfl ?_; rintro _ _ _ ⟨_, rfl, rfl, rfl⟩) | (refine prn_o0 rfl (sst tok rfl rfl rfl rfl rfl) (by decide +kernel) ?_; rintro _ _ _ ⟨rfl, rfl, rfl⟩; refine ⟨by (repeat (first | exact trivial | refine And.intro (pend_q rfl rfl rfl (qt_pev tok rfl)) ?_ | refine And.intro (pend_q rfl rfl rfl (ql tok rfl)) ?_)), ?_⟩) | (refine prn_o1 rfl (st_box rfl) (by decide +kernel) rfl rfl rfl ?_; rintro _ _ _ ⟨_, rfl, rfl, rfl⟩; refine ⟨by (repeat (first | exact trivial | refine And.intro (pend_q rfl rfl rfl (qt_pev tok rfl)) ?_ | refine And.intro (pend_q rfl rfl rfl (ql tok rfl)) ?_)), ?_⟩) | (refine prn_o1 rfl (st_alloc tok rfl) (by decide +kernel) rfl rfl rfl ?_; rintro _ _ _ ⟨_, rfl, rfl, rfl⟩; refine ⟨by (repeat (first | exact trivial | refine And.intro (pend_q rfl rfl rfl (qt_pev tok rfl)) ?_ | refine And.intro (pend_q rfl rfl rfl (ql tok rfl)) ?_)), ?_⟩) | (refine prn_o1 rfl (st_buildSlice tok rfl rfl rfl rfl rfl rfl rfl) (by decide +kernel) rfl rfl rfl ?_; rintro _ _ _ ⟨_, rfl, rfl, rfl⟩; refine ⟨by (repeat (first | exact trivial | refine And.intro (pend_q rfl rfl rfl (qt_pev tok rfl)) ?_ | refine And.intro (pend_q rfl rfl rfl (ql tok rfl)) ?_)), ?_⟩) | (refine prn_e1 rfl (qt_pev tok rfl) (by decide +kernel) rfl rfl rfl ?_; rintro _ _ _ ⟨rfl, rfl, rfl⟩))
  exact run_end hC (rs := []) rfl resN (fun _ h => h) ⟨rfl, hM1, by rw [nsB_tx]⟩
end Go.Proofs.Ytpjklbkfhgfmnaa
namespace Go.Proofs.Ytpjklbkfhgfmnaa
open Go.Chi

set_option maxRecDepth 10000 in
set_option maxHeartbeats 8000000 in
theorem wbody_ok (M : Mem) (L : HL) (bw br : Nat) (s : ByteArray) (r : Rc) (hr : Cells M [] br 0 (rcC r)) (hb : r.body.size < 1099511627776) (hs : s.size < 2305843009213693952) :
    Tr Try.prog 95 [.pointer (some ⟨bw, 0, none⟩)] M (wrB bw br s :: L) (fun v M' L' => v = .tuple ⟨[]⟩ ∧ M.le M' ∧ L' = wrB bw br (s ++ textB r.body) :: L) := by
  have hz := textB_sz hb
  refine Tr.intro 17 Try.func95 rfl rfl Try.call95 rfl ?_
  intro C hC hro
  repeat (first | with_reducible (first | refine run_seq ?_ | refine run_region ?_ | refine runL_nil ?_ | refine run_skip ?_ | refine run_block ?_ | refine run_inBlock ?_) | refine run_exit rfl ?_ | refine runL_q (qt_pev tok rfl) rfl rfl rfl ?_ | refine runL_g rfl rfl (qt_pev tok rfl) rfl rfl rfl rfl rfl ?_ | refine runL_q (ql tok rfl) rfl rfl rfl ?_ | refine runL_g rfl rfl (ql tok rfl) rfl rfl rfl rfl rfl ?_ | (refine runL_op0 (sst tok rfl rfl rfl rfl rfl) ?_; rintro _ _ _ ⟨rfl, rfl, rfl⟩) | (refine runL_op (st_box rfl) rfl rfl rfl ?_; rintro _ _ _ ⟨_, rfl, rfl, rfl⟩) | (refine runL_op (st_alloc tok rfl) rfl rfl rfl ?_; rintro _ _ _ ⟨_, rfl, rfl, rfl⟩) | (refine runL_op (st_buildSlice tok rfl rfl rfl rfl rfl rfl rfl) rfl rfl rfl ?_; rintro _ _ _ ⟨_, rfl, rfl, rfl⟩) | refine prn_start mixed ?_ | refine prn_end (by decide +kernel) ?_ | refine prn_q rfl (qt_pev tok rfl) (by decide +kernel) rfl rfl rfl ?_ | refine prn_g rfl rfl rfl (qt_pev tok rfl) (by decide +kernel) rfl rfl rfl rfl rfl ?_ | refine prn_q rfl (ql tok rfl) (by decide +kernel) rfl rfl rfl ?_ | refine prn_g rfl rfl rfl (ql tok rfl) (by decide +kernel) rfl rfl rfl rfl rfl ?_ | (refine prn_e0 rfl (sst tok rfl rfl rfl rfl rfl) (by decide +kernel) ?_; rintro _ _ _ ⟨rfl, rfl, rfl⟩) | (refine prn_e1 rfl (st_box rfl) (by decide +kernel) rfl rfl rfl ?_; rintro _ _ _ ⟨_, rfl, rfl, rfl⟩) | (refine prn_e1 rfl (st_alloc tok rfl) (by decide +kernel) rfl rfl rfl ?_; rintro _ _ _ ⟨_, rfl, rfl, rfl⟩) | (refine prn_e1 rfl (st_buildSlice tok rfl rfl rfl rfl rfl rfl rfl) (by decide +kernel) rfl rfl rfl ?_; rintro _ _ _ ⟨_, rfl, rfl, rfl⟩) | (refine prn_o0 rfl (sst tok rfl rfl rfl rfl rfl) (by decide +kernel) ?_; rintro _ _ _ ⟨rfl, rfl, rfl⟩; refine ⟨by (repeat (first | exact trivial | refine And.intro (pend_q rfl rfl rfl (qt_pev tok rfl)) ?_ | refine And.intro (pend_q rfl rfl rfl (ql tok rfl)) ?_)), ?_⟩) | (refine prn_o1 rfl (st_box rfl) (by decide +kernel) rfl rfl rfl ?_; rintro _ _ _ ⟨_, rfl, rfl, rfl⟩; refine ⟨by (repeat (first | exact trivial | refine And.intro (pend_q rfl rfl rfl (qt_pev tok rfl)) ?_ | refine And.intro (pend_q rfl rfl rfl (ql tok rfl)) ?_)), ?_⟩) | (refine prn_o1 rfl (st_alloc tok rfl) (by decide +kernel) rfl rfl rfl ?_; rintro _ _ _ ⟨_, rfl, rfl, rfl⟩; refine ⟨by (repeat (first | exact trivial | refine And.intro (pend_q rfl rfl rfl (qt_pev tok rfl)) ?_ | refine And.intro (pend_q rfl rfl rfl (ql tok rfl)) ?_)), ?_⟩) | (refine prn_o1 rfl (st_buildSlice tok rfl rfl rfl rfl rfl rfl rfl) (by decide +kernel) rfl rfl rfl ?_; rintro _ _ _ ⟨_, rfl, rfl, rfl⟩; refine ⟨by (repeat (first | exact trivial | refine And.intro (pend_q rfl rfl rfl (qt_pev tok rfl)) ?_ | refine And.intro (pend_q rfl rfl rfl (ql tok rfl)) ?_)), ?_⟩) | (refine prn_e1 rfl (qt_pev tok rfl) (by decide +kernel) rfl rfl rfl ?_; rintro _ _ _ ⟨rfl, rfl, rfl⟩) | refine prn_q rfl (qt_ldM (k := 9) tok rfl hr rfl) (by decide +kernel) rfl rfl rfl ?_ | refine prn_q rfl (qt_callF rfl (fun _ => otext_ok _ _ r.body (by omega))) (by decide +kernel) rfl rfl rfl ?_ | refine prn_q rfl (qt_concat rfl rfl (by omega)) (by decide +kernel) rfl rfl rfl ?_)
  exact run_end hC (rs := []) rfl resN (fun _ h => h) ⟨rfl, Mem.le_refl _, rfl⟩
theorem trPerm {P : Program} {f : FuncId} {args : List Value} {M : Mem} {L L' : HL} {K : Value → Mem → HL → Prop} (hp : L.Perm L') (h : Tr P f args M L' K) : Tr P f args M L K := ⟨h.1, fun w hw => h.2 w (hw.perm hp)⟩
def mbLim (l : List Mb) : Prop := ∀ m ∈ l, (0 ≤ m.org ∧ m.org ≤ 7) ∧ m.digest.size < 1099511627776
theorem mbB_snoc (l : List Mb) (m : Mb) : mbB (l ++ [m]) = mbB l ++ (nB m.org ++ textB m.digest) := by
  induction l with
  | nil => show nB m.org ++ (textB m.digest ++ bz) = bz ++ _; rw [show bz = (⟨#[]⟩ : ByteArray) from rfl, app_nil, nil_app]
  | cons x l ih => show nB x.org ++ (textB x.digest ++ mbB (l ++ [m])) = (nB x.org ++ (textB x.digest ++ mbB l)) ++ _; rw [ih]; simp only [app_assoc]
theorem mbB_sz {l : List Mb} (h : mbLim l) : (mbB l).size ≤ l.length * 1099511627800 := by
  induction l with
  | nil => exact Nat.le_refl _
  | cons x l ih =>
    have h1 := ih fun t ht => h t (List.mem_cons_of_mem _ ht)
    obtain ⟨h2, h3⟩ := h x List.mem_cons_self
    have h4 := textB_sz h3
    have h5 := nB_size (n := x.org) (by omega)
    show (nB x.org ++ (textB x.digest ++ mbB l)).size ≤ _
    rw [app_size, app_size, List.length_cons]
    omega
set_option maxRecDepth 10000 in
set_option maxHeartbeats 8000000 in
theorem wmembers_ok (M : Mem) (L : HL) (bw br : Nat) (s : ByteArray) (r : Rc) (hr : Cells M [] br 0 (rcC r)) (hm : MbOk M r.mem) (hml : mbLim r.mem.xs) (hs : s.size < 1099511627776) :
    Tr Try.prog 97 [.pointer (some ⟨bw, 0, none⟩)] M (wrB bw br s :: L) (fun v M' L' => v = .tuple ⟨[]⟩ ∧ M.le M' ∧ L' = wrB bw br (s ++ msB r.mem.xs) :: L) := by
  have hx1 := hm.len
  have hlt6 := hm.2
  refine Tr.intro 43 Try.func97 rfl rfl Try.call97 rfl ?_
  intro C hC hro
  repeat (first | with_reducible (first | refine run_seq ?_ | refine run_region ?_ | refine runL_nil ?_ | refine run_skip ?_ | refine run_block ?_ | refine run_inBlock ?_) | refine run_exit rfl ?_ | refine runL_q (qt_pev tok rfl) rfl rfl rfl ?_ | refine runL_g rfl rfl (qt_pev tok rfl) rfl rfl rfl rfl rfl ?_ | refine runL_q (ql tok rfl) rfl rfl rfl ?_ | refine runL_g rfl rfl (ql tok rfl) rfl rfl rfl rfl rfl ?_ | (refine runL_op0 (sst tok rfl rfl rfl rfl rfl) ?_; rintro _ _ _ ⟨rfl, rfl, rfl⟩) | (refine runL_op (st_box rfl) rfl rfl rfl ?_; rintro _ _ _ ⟨_, rfl, rfl, rfl⟩) | (refine runL_op (st_alloc tok rfl) rfl rfl rfl ?_; rintro _ _ _ ⟨_, rfl, rfl, rfl⟩) | (refine runL_op (st_buildSlice tok rfl rfl rfl rfl rfl rfl rfl) rfl rfl rfl ?_; rintro _ _ _ ⟨_, rfl, rfl, rfl⟩) | refine runL_q (qt_ldM (k := 7) tok rfl hr rfl) rfl rfl rfl ?_ | refine runL_op (st_callF rfl (fun _ => wnumsG _ L bw br s _ _ _ _ [(r.mem.len : Int)] rfl rfl (by decide) (by simp; omega) (by omega))) rfl rfl rfl ?_; rintro _ M1 _ ⟨rfl, hM1, rfl⟩)
  have hr1 := hr.le hM1
  repeat (first | with_reducible (first | refine run_seq ?_ | refine run_region ?_ | refine runL_nil ?_ | refine run_skip ?_ | refine run_block ?_ | refine run_inBlock ?_) | refine run_exit rfl ?_ | refine runL_q (qt_pev tok rfl) rfl rfl rfl ?_ | refine runL_g rfl rfl (qt_pev tok rfl) rfl rfl rfl rfl rfl ?_ | refine runL_q (ql tok rfl) rfl rfl rfl ?_ | refine runL_g rfl rfl (ql tok rfl) rfl rfl rfl rfl rfl ?_ | (refine runL_op0 (sst tok rfl rfl rfl rfl rfl) ?_; rintro _ _ _ ⟨rfl, rfl, rfl⟩) | (refine runL_op (st_box rfl) rfl rfl rfl ?_; rintro _ _ _ ⟨_, rfl, rfl, rfl⟩) | (refine runL_op (st_alloc tok rfl) rfl rfl rfl ?_; rintro _ _ _ ⟨_, rfl, rfl, rfl⟩) | (refine runL_op (st_buildSlice tok rfl rfl rfl rfl rfl rfl rfl) rfl rfl rfl ?_; rintro _ _ _ ⟨_, rfl, rfl, rfl⟩) | refine runL_q (qt_ldM (k := 7) tok rfl hr1 rfl) rfl rfl rfl ?_)
  have hm1 := hm.le hM1
  refine run_loopN (fun j σ1 M2 L1 => j ≤ r.mem.len ∧ M1.le M2 ∧ L1 = wrB bw br (s ++ (nB (r.mem.len : Int) ++ mbB (r.mem.xs.take j))) :: L ∧ σ1 = [(23, .int .i64 (j : Int)), (22, .int .i64 (r.mem.len : Int)), (21, r.mem.v), (0, .pointer (some ⟨bw, 0, none⟩))]) r.mem.len [(23, .int .i64 ((0 : Nat) : Int)), (22, .int .i64 (r.mem.len : Int)), (21, r.mem.v), (0, .pointer (some ⟨bw, 0, none⟩))] ?_ ⟨Nat.zero_le _, Mem.le_refl _, by rw [List.take_zero, mbB, show bz = (⟨#[]⟩ : ByteArray) from rfl, app_nil, nsB_one], rfl⟩ (fun j _ _ _ h => h.1) ?_
  · exact ⟨rfl, rfl, rfl, rfl, trivial⟩
  rintro j _ M2 _ ⟨hj, hM2, rfl, rfl⟩ hnext
  repeat (first | with_reducible (first | refine run_seq ?_ | refine run_region ?_ | refine runL_nil ?_ | refine run_skip ?_ | refine run_block ?_ | refine run_inBlock ?_) | refine run_exit rfl ?_ | refine runL_q (qt_pev tok rfl) rfl rfl rfl ?_ | refine runL_g rfl rfl (qt_pev tok rfl) rfl rfl rfl rfl rfl ?_ | refine runL_q (ql tok rfl) rfl rfl rfl ?_ | refine runL_g rfl rfl (ql tok rfl) rfl rfl rfl rfl rfl ?_ | (refine runL_op0 (sst tok rfl rfl rfl rfl rfl) ?_; rintro _ _ _ ⟨rfl, rfl, rfl⟩) | (refine runL_op (st_box rfl) rfl rfl rfl ?_; rintro _ _ _ ⟨_, rfl, rfl, rfl⟩) | (refine runL_op (st_alloc tok rfl) rfl rfl rfl ?_; rintro _ _ _ ⟨_, rfl, rfl, rfl⟩) | (refine runL_op (st_buildSlice tok rfl rfl rfl rfl rfl rfl rfl) rfl rfl rfl ?_; rintro _ _ _ ⟨_, rfl, rfl, rfl⟩))
  refine run_cond rfl (fun h => ?_) (fun h => ?_)
  · have hlt : j < r.mem.len := by simpa using h
    obtain ⟨b, off, m, hma, hmj, hc⟩ := SMb.at_ (hm1.le hM2).1 hlt
    have hv : r.mem.v = .slice (some ⟨b, off, none⟩) r.mem.len r.mem.cap := by rw [← hma]; rfl
    obtain ⟨hml1, hml2⟩ := hml m (List.mem_of_getElem? hmj)
    refine run_as 21 (.slice (some ⟨b, off, none⟩) r.mem.len r.mem.cap) rfl hv ?_
    have hz1 := textB_sz hml2
    have hz2 := nB_size (n := m.org) (by omega)
    have hz3 := nB_size (n := (r.mem.len : Int)) (by omega)
    have hz4 := mbB_sz (l := r.mem.xs.take j) fun t ht => hml t (List.mem_of_mem_take ht)
    have hz5 : (r.mem.xs.take j).length ≤ 1000000 := by rw [List.length_take]; omega
    have hz6 : (r.mem.xs.take j).length * 1099511627800 ≤ 1000000 * 1099511627800 := Nat.mul_le_mul_right _ hz5
    have hz7 : (s ++ (nB (r.mem.len : Int) ++ mbB (r.mem.xs.take j))).size < 2305843009213693952 := by rw [app_size, app_size]; omega
    repeat (first | with_reducible (first | refine run_seq ?_ | refine run_region ?_ | refine runL_nil ?_ | refine run_skip ?_ | refine run_block ?_ | refine run_inBlock ?_) | refine run_exit rfl ?_ | refine runL_q (qt_pev tok rfl) rfl rfl rfl ?_ | refine runL_g rfl rfl (qt_pev tok rfl) rfl rfl rfl rfl rfl ?_ | refine runL_q (ql tok rfl) rfl rfl rfl ?_ | refine runL_g rfl rfl (ql tok rfl) rfl rfl rfl rfl rfl ?_ | (refine runL_op0 (sst tok rfl rfl rfl rfl rfl) ?_; rintro _ _ _ ⟨rfl, rfl, rfl⟩) | (refine runL_op (st_box rfl) rfl rfl rfl ?_; rintro _ _ _ ⟨_, rfl, rfl, rfl⟩) | (refine runL_op (st_alloc tok rfl) rfl rfl rfl ?_; rintro _ _ _ ⟨_, rfl, rfl, rfl⟩) | (refine runL_op (st_buildSlice tok rfl rfl rfl rfl rfl rfl rfl) rfl rfl rfl ?_; rintro _ _ _ ⟨_, rfl, rfl, rfl⟩) | refine runL_q (qt_indexN tok rfl rfl rfl rfl (fun _ => by omega)) rfl rfl rfl ?_ | refine runL_g rfl rfl (qt_indexN tok rfl rfl rfl rfl (fun _ => by omega)) rfl rfl rfl rfl rfl ?_ | refine runL_q (qt_ldM tok rfl hc rfl) rfl rfl rfl ?_ | refine runL_g rfl rfl (qt_ldM tok rfl hc rfl) rfl rfl rfl rfl rfl ?_ | refine runL_q (qt_ldM0 tok rfl hc rfl) rfl rfl rfl ?_ | refine runL_g rfl rfl (qt_ldM0 tok rfl hc rfl) rfl rfl rfl rfl rfl ?_)
    refine runL_op (st_callF rfl (fun _ => trPerm ((List.Perm.swap _ _ _).cons _) (wnumsG M2 (_ :: L) bw br _ _ _ _ _ [m.org] rfl rfl (by decide) (by simp; omega) hz7))) rfl rfl rfl ?_
    rintro _ M3 _ ⟨rfl, hM3, rfl⟩
    have hz8 : ((s ++ (nB (r.mem.len : Int) ++ mbB (r.mem.xs.take j))) ++ nsB [m.org]).size + (textB m.digest).size < 4611686018427387904 := by rw [app_size, nsB_one]; omega
    repeat (first | with_reducible (first | refine run_seq ?_ | refine run_region ?_ | refine runL_nil ?_ | refine run_skip ?_ | refine run_block ?_ | refine run_inBlock ?_) | refine run_exit rfl ?_ | refine runL_q (qt_pev tok rfl) rfl rfl rfl ?_ | refine runL_g rfl rfl (qt_pev tok rfl) rfl rfl rfl rfl rfl ?_ | refine runL_q (ql tok rfl) rfl rfl rfl ?_ | refine runL_g rfl rfl (ql tok rfl) rfl rfl rfl rfl rfl ?_ | (refine runL_op0 (sst tok rfl rfl rfl rfl rfl) ?_; rintro _ _ _ ⟨rfl, rfl, rfl⟩) | (refine runL_op (st_box rfl) rfl rfl rfl ?_; rintro _ _ _ ⟨_, rfl, rfl, rfl⟩) | (refine runL_op (st_alloc tok rfl) rfl rfl rfl ?_; rintro _ _ _ ⟨_, rfl, rfl, rfl⟩) | (refine runL_op (st_buildSlice tok rfl rfl rfl rfl rfl rfl rfl) rfl rfl rfl ?_; rintro _ _ _ ⟨_, rfl, rfl, rfl⟩))
    repeat (first | with_reducible (first | refine run_seq ?_ | refine run_region ?_ | refine runL_nil ?_ | refine run_skip ?_ | refine run_block ?_ | refine run_inBlock ?_) | refine run_exit rfl ?_ | refine runL_q (qt_pev tok rfl) rfl rfl rfl ?_ | refine runL_g rfl rfl (qt_pev tok rfl) rfl rfl rfl rfl rfl ?_ | refine runL_q (ql tok rfl) rfl rfl rfl ?_ | refine runL_g rfl rfl (ql tok rfl) rfl rfl rfl rfl rfl ?_ | (refine runL_op0 (sst tok rfl rfl rfl rfl rfl) ?_; rintro _ _ _ ⟨rfl, rfl, rfl⟩) | (refine runL_op (st_box rfl) rfl rfl rfl ?_; rintro _ _ _ ⟨_, rfl, rfl, rfl⟩) | (refine runL_op (st_alloc tok rfl) rfl rfl rfl ?_; rintro _ _ _ ⟨_, rfl, rfl, rfl⟩) | (refine runL_op (st_buildSlice tok rfl rfl rfl rfl rfl rfl rfl) rfl rfl rfl ?_; rintro _ _ _ ⟨_, rfl, rfl, rfl⟩) | refine prn_start mixed ?_ | refine prn_end (by decide +kernel) ?_ | refine prn_q rfl (qt_pev tok rfl) (by decide +kernel) rfl rfl rfl ?_ | refine prn_g rfl rfl rfl (qt_pev tok rfl) (by decide +kernel) rfl rfl rfl rfl rfl ?_ | refine prn_q rfl (ql tok rfl) (by decide +kernel) rfl rfl rfl ?_ | refine prn_g rfl rfl rfl (ql tok rfl) (by decide +kernel) rfl rfl rfl rfl rfl ?_ | (refine prn_e0 rfl (sst tok rfl rfl rfl rfl rfl) (by decide +kernel) ?_; rintro _ _ _ ⟨rfl, rfl, rfl⟩) | (refine prn_e1 rfl (st_box rfl) (by decide +kernel) rfl rfl rfl ?_; rintro _ _ _ ⟨_, rfl, rfl, rfl⟩) | (refine prn_e1 rfl (st_alloc tok rfl) (by decide +kernel) rfl rfl rfl ?_; rintro _ _ _ ⟨_, rfl, rfl, rfl⟩) | (refine prn_e1 rfl (st_buildSlice tok rfl rfl rfl rfl rfl rfl rfl) (by decide +kernel) rfl rfl rfl ?_; rintro _ _ _ ⟨_, rfl, rfl, rfl⟩) | (refine prn_o0 rfl (sst tok rfl rfl rfl rfl rfl) (by decide +kernel) ?_; rintro _ _ _ ⟨rfl, rfl, rfl⟩; refine ⟨by (repeat (first | exact trivial | refine And.intro (pend_q rfl rfl rfl (qt_pev tok rfl)) ?_ | refine And.intro (pend_q rfl rfl rfl (ql tok rfl)) ?_)), ?_⟩) | (refine prn_o1 rfl (st_box rfl) (by decide +kernel) rfl rfl rfl ?_; rintro _ _ _ ⟨_, rfl, rfl, rfl⟩; refine ⟨by (repeat (first | exact trivial | refine And.intro (pend_q rfl rfl rfl (qt_pev tok rfl)) ?_ | refine And.intro (pend_q rfl rfl rfl (ql tok rfl)) ?_)), ?_⟩) | (refine prn_o1 rfl (st_alloc tok rfl) (by decide +kernel) rfl rfl rfl ?_; rintro _ _ _ ⟨_, rfl, rfl, rfl⟩; refine ⟨by (repeat (first | exact trivial | refine And.intro (pend_q rfl rfl rfl (qt_pev tok rfl)) ?_ | refine And.intro (pend_q rfl rfl rfl (ql tok rfl)) ?_)), ?_⟩) | (refine prn_o1 rfl (st_buildSlice tok rfl rfl rfl rfl rfl rfl rfl) (by decide +kernel) rfl rfl rfl ?_; rintro _ _ _ ⟨_, rfl, rfl, rfl⟩; refine ⟨by (repeat (first | exact trivial | refine And.intro (pend_q rfl rfl rfl (qt_pev tok rfl)) ?_ | refine And.intro (pend_q rfl rfl rfl (ql tok rfl)) ?_)), ?_⟩) | (refine prn_e1 rfl (qt_pev tok rfl) (by decide +kernel) rfl rfl rfl ?_; rintro _ _ _ ⟨rfl, rfl, rfl⟩) | refine prn_q rfl (qt_callF rfl (fun _ => otext_ok _ _ m.digest (by omega))) (by decide +kernel) rfl rfl rfl ?_ | refine prn_q rfl (qt_concat rfl rfl hz8) (by decide +kernel) rfl rfl rfl ?_)
    refine run_mem (fun _ h => (h.perm (List.Perm.swap _ _ _)).drop) (run_sub' (hnext _ _ _ ⟨hlt, Mem.le_trans hM2 hM3, ?_, rfl⟩) ⟨lk_succ rfl (by omega), rfl, by rw [hv]; rfl, rfl, trivial⟩)
    rw [take_snoc hmj, mbB_snoc, nsB_one]
    simp only [app_assoc]
    rfl
  · have hge : j = r.mem.len := by simp at h; omega
    repeat (first | with_reducible (first | refine run_seq ?_ | refine run_region ?_ | refine runL_nil ?_ | refine run_skip ?_ | refine run_block ?_ | refine run_inBlock ?_) | refine run_exit rfl ?_ | refine runL_q (qt_pev tok rfl) rfl rfl rfl ?_ | refine runL_g rfl rfl (qt_pev tok rfl) rfl rfl rfl rfl rfl ?_ | refine runL_q (ql tok rfl) rfl rfl rfl ?_ | refine runL_g rfl rfl (ql tok rfl) rfl rfl rfl rfl rfl ?_ | (refine runL_op0 (sst tok rfl rfl rfl rfl rfl) ?_; rintro _ _ _ ⟨rfl, rfl, rfl⟩) | (refine runL_op (st_box rfl) rfl rfl rfl ?_; rintro _ _ _ ⟨_, rfl, rfl, rfl⟩) | (refine runL_op (st_alloc tok rfl) rfl rfl rfl ?_; rintro _ _ _ ⟨_, rfl, rfl, rfl⟩) | (refine runL_op (st_buildSlice tok rfl rfl rfl rfl rfl rfl rfl) rfl rfl rfl ?_; rintro _ _ _ ⟨_, rfl, rfl, rfl⟩))
    refine run_end hC (rs := []) rfl resN (fun _ h => h) ⟨rfl, Mem.le_trans hM1 hM2, ?_⟩
    rw [hge, List.take_of_length_le (by omega), msB, hx1]
end Go.Proofs.Ytpjklbkfhgfmnaa
namespace Go.Proofs.Ytpjklbkfhgfmnaa
open Go.Chi

def moreB (r : Rc) : ByteArray := if r.yes = true then nB r.auditor ++ (msB r.mem.xs ++ tsB r.tags.xs) else bz
set_option maxRecDepth 10000 in
set_option maxHeartbeats 8000000 in
theorem wmore_ok (M : Mem) (L : HL) (bw br : Nat) (s : ByteArray) (r : Rc) (hr : Cells M [] br 0 (rcC r)) (hm : MbOk M r.mem) (hml : r.yes = true → mbLim r.mem.xs) (ht : StOk M r.tags) (htl : r.yes = true → ∀ t ∈ r.tags.xs, t.size < 1099511627776)
    (hn : r.yes = true → 0 ≤ r.auditor ∧ r.auditor < 4611686018427387904) (hs : s.size < 1000000) :
    Tr Try.prog 98 [.pointer (some ⟨bw, 0, none⟩)] M (wrB bw br s :: L) (fun v M' L' => v = .tuple ⟨[]⟩ ∧ M.le M' ∧ L' = wrB bw br (s ++ moreB r) :: L) := by
  refine Tr.intro 28 Try.func98 rfl rfl Try.call98 rfl ?_
  intro C hC hro
  repeat (first | with_reducible (first | refine run_seq ?_ | refine run_region ?_ | refine runL_nil ?_ | refine run_skip ?_ | refine run_block ?_ | refine run_inBlock ?_) | refine run_exit rfl ?_ | refine runL_q (qt_pev tok rfl) rfl rfl rfl ?_ | refine runL_g rfl rfl (qt_pev tok rfl) rfl rfl rfl rfl rfl ?_ | refine runL_q (ql tok rfl) rfl rfl rfl ?_ | refine runL_g rfl rfl (ql tok rfl) rfl rfl rfl rfl rfl ?_ | (refine runL_op0 (sst tok rfl rfl rfl rfl rfl) ?_; rintro _ _ _ ⟨rfl, rfl, rfl⟩) | (refine runL_op (st_box rfl) rfl rfl rfl ?_; rintro _ _ _ ⟨_, rfl, rfl, rfl⟩) | (refine runL_op (st_alloc tok rfl) rfl rfl rfl ?_; rintro _ _ _ ⟨_, rfl, rfl, rfl⟩) | (refine runL_op (st_buildSlice tok rfl rfl rfl rfl rfl rfl rfl) rfl rfl rfl ?_; rintro _ _ _ ⟨_, rfl, rfl, rfl⟩) | refine runL_q (qt_ldM (k := 5) tok rfl hr rfl) rfl rfl rfl ?_)
  refine run_cond rfl (fun h => ?_) (fun h => ?_)
  · have hml := hml h
    have htl := htl h
    have hn := hn h
    have hz1 := nB_size (n := r.auditor) (by omega)
    have hz4 := mbB_sz hml
    have hx1 := hm.len
    have hlt6 := hm.2
    have hz2 := nB_size (n := (r.mem.xs.length : Int)) (by omega)
    have hz5 : r.mem.xs.length * 1099511627800 ≤ 1000000 * 1099511627800 := Nat.mul_le_mul_right _ (by omega)
    have hx2 := ht.len
    have hlt7 := ht.2
    have hz6 := tsB_sz htl
    have hz7 : r.tags.xs.length * 1099511627786 ≤ 1000000 * 1099511627786 := Nat.mul_le_mul_right _ (by omega)
    have hz8 : ((s ++ nB r.auditor) ++ msB r.mem.xs).size + (tsB r.tags.xs).size < 4611686018427387904 := by rw [app_size, app_size, msB, app_size]; omega
    repeat (first | with_reducible (first | refine run_seq ?_ | refine run_region ?_ | refine runL_nil ?_ | refine run_skip ?_ | refine run_block ?_ | refine run_inBlock ?_) | refine run_exit rfl ?_ | refine runL_q (qt_pev tok rfl) rfl rfl rfl ?_ | refine runL_g rfl rfl (qt_pev tok rfl) rfl rfl rfl rfl rfl ?_ | refine runL_q (ql tok rfl) rfl rfl rfl ?_ | refine runL_g rfl rfl (ql tok rfl) rfl rfl rfl rfl rfl ?_ | (refine runL_op0 (sst tok rfl rfl rfl rfl rfl) ?_; rintro _ _ _ ⟨rfl, rfl, rfl⟩) | (refine runL_op (st_box rfl) rfl rfl rfl ?_; rintro _ _ _ ⟨_, rfl, rfl, rfl⟩) | (refine runL_op (st_alloc tok rfl) rfl rfl rfl ?_; rintro _ _ _ ⟨_, rfl, rfl, rfl⟩) | (refine runL_op (st_buildSlice tok rfl rfl rfl rfl rfl rfl rfl) rfl rfl rfl ?_; rintro _ _ _ ⟨_, rfl, rfl, rfl⟩) | refine runL_op (st_callF rfl (fun _ => wauditor_ok M L bw br s r hr hn (by omega))) rfl rfl rfl ?_; rintro _ M1 _ ⟨rfl, hM1, rfl⟩)
    repeat (first | with_reducible (first | refine run_seq ?_ | refine run_region ?_ | refine runL_nil ?_ | refine run_skip ?_ | refine run_block ?_ | refine run_inBlock ?_) | refine run_exit rfl ?_ | refine runL_q (qt_pev tok rfl) rfl rfl rfl ?_ | refine runL_g rfl rfl (qt_pev tok rfl) rfl rfl rfl rfl rfl ?_ | refine runL_q (ql tok rfl) rfl rfl rfl ?_ | refine runL_g rfl rfl (ql tok rfl) rfl rfl rfl rfl rfl ?_ | (refine runL_op0 (sst tok rfl rfl rfl rfl rfl) ?_; rintro _ _ _ ⟨rfl, rfl, rfl⟩) | (refine runL_op (st_box rfl) rfl rfl rfl ?_; rintro _ _ _ ⟨_, rfl, rfl, rfl⟩) | (refine runL_op (st_alloc tok rfl) rfl rfl rfl ?_; rintro _ _ _ ⟨_, rfl, rfl, rfl⟩) | (refine runL_op (st_buildSlice tok rfl rfl rfl rfl rfl rfl rfl) rfl rfl rfl ?_; rintro _ _ _ ⟨_, rfl, rfl, rfl⟩) | refine runL_op (st_callF rfl (fun _ => wmembers_ok M1 L bw br _ r (hr.le hM1) (hm.le hM1) hml (by rw [app_size]; omega))) rfl rfl rfl ?_; rintro _ M2 _ ⟨rfl, hM2, rfl⟩)
    have hr2 := (hr.le hM1).le hM2
    have ht2 := (ht.le hM1).le hM2
    repeat (first | with_reducible (first | refine run_seq ?_ | refine run_region ?_ | refine runL_nil ?_ | refine run_skip ?_ | refine run_block ?_ | refine run_inBlock ?_) | refine run_exit rfl ?_ | refine runL_q (qt_pev tok rfl) rfl rfl rfl ?_ | refine runL_g rfl rfl (qt_pev tok rfl) rfl rfl rfl rfl rfl ?_ | refine runL_q (ql tok rfl) rfl rfl rfl ?_ | refine runL_g rfl rfl (ql tok rfl) rfl rfl rfl rfl rfl ?_ | (refine runL_op0 (sst tok rfl rfl rfl rfl rfl) ?_; rintro _ _ _ ⟨rfl, rfl, rfl⟩) | (refine runL_op (st_box rfl) rfl rfl rfl ?_; rintro _ _ _ ⟨_, rfl, rfl, rfl⟩) | (refine runL_op (st_alloc tok rfl) rfl rfl rfl ?_; rintro _ _ _ ⟨_, rfl, rfl, rfl⟩) | (refine runL_op (st_buildSlice tok rfl rfl rfl rfl rfl rfl rfl) rfl rfl rfl ?_; rintro _ _ _ ⟨_, rfl, rfl, rfl⟩) | refine prn_start mixed ?_ | refine prn_end (by decide +kernel) ?_ | refine prn_q rfl (qt_pev tok rfl) (by decide +kernel) rfl rfl rfl ?_ | refine prn_g rfl rfl rfl (qt_pev tok rfl) (by decide +kernel) rfl rfl rfl rfl rfl ?_ | refine prn_q rfl (ql tok rfl) (by decide +kernel) rfl rfl rfl ?_ | refine prn_g rfl rfl rfl (ql tok rfl) (by decide +kernel) rfl rfl rfl rfl rfl ?_ | (refine prn_e0 rfl (sst tok rfl rfl rfl rfl rfl) (by decide +kernel) ?_; rintro _ _ _ ⟨rfl, rfl, rfl⟩) | (refine prn_e1 rfl (st_box rfl) (by decide +kernel) rfl rfl rfl ?_; rintro _ _ _ ⟨_, rfl, rfl, rfl⟩) | (refine prn_e1 rfl (st_alloc tok rfl) (by decide +kernel) rfl rfl rfl ?_; rintro _ _ _ ⟨_, rfl, rfl, rfl⟩) | (refine prn_e1 rfl (st_buildSlice tok rfl rfl rfl rfl rfl rfl rfl) (by decide +kernel) rfl rfl rfl ?_; rintro _ _ _ ⟨_, rfl, rfl, rfl⟩) | (refine prn_o0 rfl (sst tok rfl rfl rfl rfl rfl) (by decide +kernel) ?_; rintro _ _ _ ⟨rfl, rfl, rfl⟩; refine ⟨by (repeat (first | exact trivial | refine And.intro (pend_q rfl rfl rfl (qt_pev tok rfl)) ?_ | refine And.intro (pend_q rfl rfl rfl (ql tok rfl)) ?_)), ?_⟩) | (refine prn_o1 rfl (st_box rfl) (by decide +kernel) rfl rfl rfl ?_; rintro _ _ _ ⟨_, rfl, rfl, rfl⟩; refine ⟨by (repeat (first | exact trivial | refine And.intro (pend_q rfl rfl rfl (qt_pev tok rfl)) ?_ | refine And.intro (pend_q rfl rfl rfl (ql tok rfl)) ?_)), ?_⟩) | (refine prn_o1 rfl (st_alloc tok rfl) (by decide +kernel) rfl rfl rfl ?_; rintro _ _ _ ⟨_, rfl, rfl, rfl⟩; refine ⟨by (repeat (first | exact trivial | refine And.intro (pend_q rfl rfl rfl (qt_pev tok rfl)) ?_ | refine And.intro (pend_q rfl rfl rfl (ql tok rfl)) ?_)), ?_⟩) | (refine prn_o1 rfl (st_buildSlice tok rfl rfl rfl rfl rfl rfl rfl) (by decide +kernel) rfl rfl rfl ?_; rintro _ _ _ ⟨_, rfl, rfl, rfl⟩; refine ⟨by (repeat (first | exact trivial | refine And.intro (pend_q rfl rfl rfl (qt_pev tok rfl)) ?_ | refine And.intro (pend_q rfl rfl rfl (ql tok rfl)) ?_)), ?_⟩) | (refine prn_e1 rfl (qt_pev tok rfl) (by decide +kernel) rfl rfl rfl ?_; rintro _ _ _ ⟨rfl, rfl, rfl⟩) | refine prn_q rfl (qt_ldM (k := 8) tok rfl hr2 rfl) (by decide +kernel) rfl rfl rfl ?_ | refine prn_q rfl (qt_callF rfl (fun _ => orow_ok _ _ r.tags ht2 htl)) (by decide +kernel) rfl rfl rfl ?_ | refine prn_q rfl (qt_concat rfl rfl hz8) (by decide +kernel) rfl rfl rfl ?_)
    refine run_end hC (rs := []) rfl resN (fun _ h => h) ⟨rfl, Mem.le_trans hM1 hM2, ?_⟩
    rw [moreB, if_pos h]
    simp only [app_assoc]
    rfl
  · repeat (first | with_reducible (first | refine run_seq ?_ | refine run_region ?_ | refine runL_nil ?_ | refine run_skip ?_ | refine run_block ?_ | refine run_inBlock ?_) | refine run_exit rfl ?_ | refine runL_q (qt_pev tok rfl) rfl rfl rfl ?_ | refine runL_g rfl rfl (qt_pev tok rfl) rfl rfl rfl rfl rfl ?_ | refine runL_q (ql tok rfl) rfl rfl rfl ?_ | refine runL_g rfl rfl (ql tok rfl) rfl rfl rfl rfl rfl ?_ | (refine runL_op0 (sst tok rfl rfl rfl rfl rfl) ?_; rintro _ _ _ ⟨rfl, rfl, rfl⟩) | (refine runL_op (st_box rfl) rfl rfl rfl ?_; rintro _ _ _ ⟨_, rfl, rfl, rfl⟩) | (refine runL_op (st_alloc tok rfl) rfl rfl rfl ?_; rintro _ _ _ ⟨_, rfl, rfl, rfl⟩) | (refine runL_op (st_buildSlice tok rfl rfl rfl rfl rfl rfl rfl) rfl rfl rfl ?_; rintro _ _ _ ⟨_, rfl, rfl, rfl⟩))
    refine run_end hC (rs := []) rfl resN (fun _ h => h) ⟨rfl, Mem.le_refl _, ?_⟩
    rw [moreB, if_neg (by rw [h]; decide), show bz = (⟨#[]⟩ : ByteArray) from rfl, app_nil]
end Go.Proofs.Ytpjklbkfhgfmnaa
namespace Go.Proofs.Ytpjklbkfhgfmnaa
open Go.Chi

/-! ### the methods behind the method values -/
theorem mw_epoch : MethOk Try.prog 44 "chirograph/record.epoch" 96 := .of (by kernel_rfl)
theorem mw_txn : MethOk Try.prog 44 "chirograph/record.txn" 99 := .of (by kernel_rfl)
theorem mw_yes : MethOk Try.prog 44 "chirograph/record.yes" 100 := .of (by kernel_rfl)
theorem mw_auditor : MethOk Try.prog 44 "chirograph/record.auditor" 94 := .of (by kernel_rfl)
theorem mw_members : MethOk Try.prog 44 "chirograph/record.members" 97 := .of (by kernel_rfl)
theorem mw_body : MethOk Try.prog 44 "chirograph/record.body" 95 := .of (by kernel_rfl)
theorem mw_more : MethOk Try.prog 44 "chirograph/record.more" 98 := .of (by kernel_rfl)
theorem mr_epoch : MethOk Try.prog 59 "chirograph/record.epoch" 107 := .of (by kernel_rfl)
theorem mr_txn : MethOk Try.prog 59 "chirograph/record.txn" 110 := .of (by kernel_rfl)
theorem mr_yes : MethOk Try.prog 59 "chirograph/record.yes" 111 := .of (by kernel_rfl)
theorem mr_auditor : MethOk Try.prog 59 "chirograph/record.auditor" 105 := .of (by kernel_rfl)
theorem mr_members : MethOk Try.prog 59 "chirograph/record.members" 108 := .of (by kernel_rfl)
theorem mr_body : MethOk Try.prog 59 "chirograph/record.body" 106 := .of (by kernel_rfl)
theorem mr_more : MethOk Try.prog 59 "chirograph/record.more" 109 := .of (by kernel_rfl)
end Go.Proofs.Ytpjklbkfhgfmnaa
namespace Go.Proofs.Ytpjklbkfhgfmnaa
open Go.Chi

/-! ### record.Encode -/
/-- what a method puts -/
def wroteB (r : Rc) (nm : String) : ByteArray :=
  if nm = "chirograph/record.epoch" then nB r.epoch else
  if nm = "chirograph/record.txn" then txB r.txn else
  if nm = "chirograph/record.yes" then yB r.yes else
  if nm = "chirograph/record.auditor" then nB r.auditor else
  if nm = "chirograph/record.members" then msB r.mem.xs else
  if nm = "chirograph/record.body" then textB r.body else moreB r
def wroteL (r : Rc) : List String → ByteArray
  | [] => bz
  | nm :: l => wroteB r nm ++ wroteL r l
theorem wroteL_snoc (r : Rc) (l : List String) (nm : String) : wroteL r (l ++ [nm]) = wroteL r l ++ wroteB r nm := by
  induction l with
  | nil => show wroteB r nm ++ bz = bz ++ _; rw [show bz = (⟨#[]⟩ : ByteArray) from rfl, app_nil, nil_app]
  | cons x l ih => show wroteB r x ++ wroteL r (l ++ [nm]) = (wroteB r x ++ wroteL r l) ++ _; rw [ih, app_assoc]
theorem nameNe {a b : String} (h : (a == b) = false) : a ≠ b := by simpa using h
theorem w_epoch (r : Rc) : wroteB r "chirograph/record.epoch" = nB r.epoch := by rw [wroteB, if_pos rfl]
theorem w_txn (r : Rc) : wroteB r "chirograph/record.txn" = txB r.txn := by rw [wroteB, if_neg (by decide), if_pos rfl]
theorem w_yes (r : Rc) : wroteB r "chirograph/record.yes" = yB r.yes := by rw [wroteB, if_neg (by decide), if_neg (by decide), if_pos rfl]
theorem w_auditor (r : Rc) : wroteB r "chirograph/record.auditor" = nB r.auditor := by rw [wroteB, if_neg (by decide), if_neg (by decide), if_neg (by decide), if_pos rfl]
theorem w_members (r : Rc) : wroteB r "chirograph/record.members" = msB r.mem.xs := by rw [wroteB, if_neg (by decide), if_neg (by decide), if_neg (by decide), if_neg (by decide), if_pos rfl]
theorem w_body (r : Rc) : wroteB r "chirograph/record.body" = textB r.body := by rw [wroteB, if_neg (by decide), if_neg (by decide), if_neg (by decide), if_neg (by decide), if_neg (by decide), if_pos rfl]
theorem w_more (r : Rc) : wroteB r "chirograph/record.more" = moreB r := by rw [wroteB, if_neg (by decide), if_neg (by decide), if_neg (by decide), if_neg (by decide), if_neg (by decide), if_neg (by decide)]
theorem meth1 : methL 1 = ["chirograph/record.epoch"] := rfl
theorem meth2 : methL 2 = ["chirograph/record.txn", "chirograph/record.yes", "chirograph/record.auditor", "chirograph/record.members", "chirograph/record.body"] := rfl
theorem meth3 : methL 3 = ["chirograph/record.txn", "chirograph/record.yes", "chirograph/record.more"] := rfl
theorem meth4 : methL 4 = ["chirograph/record.txn", "chirograph/record.yes"] := rfl
theorem bz_app (x : ByteArray) : bz ++ x = x := nil_app x
theorem app_bz (x : ByteArray) : x ++ bz = x := app_nil x
/-- all methods of a kind put the record's bytes -/
theorem wrote_all {r : Rc} (h : RecP r.re) : wroteL r (methL r.kind) = bodyB r.re := by
  have hk := h.kind
  have hk : r.kind = 1 ∨ r.kind = 2 ∨ r.kind = 3 ∨ r.kind = 4 := by have h1 : r.re.kind = r.kind := rfl; omega
  have e1 : r.re.kind = r.kind := rfl
  rcases hk with k | k | k | k
  · rw [k, meth1, bodyB, if_pos (e1.trans k)]
    simp only [wroteL, w_epoch, app_bz]
    rfl
  · rw [k, meth2, bodyB, if_neg (by rw [e1, k]; decide), if_pos (e1.trans k)]
    simp only [wroteL, w_txn, w_yes, w_auditor, w_members, w_body, app_bz]
    rfl
  · rw [k, meth3, bodyB, if_neg (by rw [e1, k]; decide), if_neg (by rw [e1, k]; decide), if_pos (e1.trans k)]
    simp only [wroteL, w_txn, w_yes, w_more, app_bz]
    rfl
  · rw [k, meth4, bodyB, if_neg (by rw [e1, k]; decide), if_neg (by rw [e1, k]; decide), if_neg (by rw [e1, k]; decide), if_pos (e1.trans k)]
    simp only [wroteL, w_txn, w_yes, app_bz]
    rfl
/-- texts of a record that is looked at -/
structure RcLim (r : Rc) : Prop where
  dig : ∀ m ∈ r.mem.xs, m.digest.size < 1099511627776
  tag : ∀ t ∈ r.tags.xs, t.size < 1099511627776
  body : r.body.size < 1099511627776
theorem recP_vote {r : Rc} (h : RecP r.re) (hk : r.kind = 2) : mayTx r.txn = true ∧ orgW r.auditor = true ∧ mayMb r.txn r.mem.xs = true := by
  generalize hr : r.re = x at h
  have e := congrArg Re.kind hr
  have e2 := congrArg Re.txn hr
  have e3 := congrArg Re.auditor hr
  have e4 := congrArg Re.mem hr
  cases h with
  | vote t y a m b h1 h2 h3 h4 => exact ⟨by rw [show r.txn = t from e2]; exact h1, by rw [show r.auditor = a from e3]; exact h2, by rw [show r.txn = t from e2, show r.mem.xs = m from e4]; exact h3⟩
  | epoch e' h1 h2 => exact absurd (e.symm.trans hk) (by simp)
  | commit t a m g h1 h2 h3 h4 h5 => exact absurd (e.symm.trans hk) (by simp)
  | abort t h1 => exact absurd (e.symm.trans hk) (by simp)
  | learn t y h1 => exact absurd (e.symm.trans hk) (by simp)
theorem recP_commit {r : Rc} (h : RecP r.re) (hk : r.kind = 3) (hy : r.yes = true) : orgW r.auditor = true ∧ mayMb r.txn r.mem.xs = true := by
  generalize hr : r.re = x at h
  have e := congrArg Re.kind hr
  have e2 := congrArg Re.txn hr
  have e3 := congrArg Re.auditor hr
  have e4 := congrArg Re.mem hr
  have e5 := congrArg Re.yes hr
  cases h with
  | commit t a m g h1 h2 h3 h4 h5 => exact ⟨by rw [show r.auditor = a from e3]; exact h2, by rw [show r.txn = t from e2, show r.mem.xs = m from e4]; exact h3⟩
  | abort t h1 => exact absurd (e5.symm.trans hy) (by simp)
  | epoch e' h1 h2 => exact absurd (e.symm.trans hk) (by simp)
  | vote t y a m b h1 h2 h3 h4 => exact absurd (e.symm.trans hk) (by simp)
  | learn t y h1 => exact absurd (e.symm.trans hk) (by simp)
theorem recP_txn {r : Rc} (h : RecP r.re) (hk : r.kind ≠ 1) : mayTx r.txn = true := by
  generalize hr : r.re = x at h
  have e := congrArg Re.kind hr
  have e2 := congrArg Re.txn hr
  cases h with
  | epoch e' h1 h2 => exact absurd e hk
  | vote t y a m b h1 h2 h3 h4 => rw [show r.txn = t from e2]; exact h1
  | commit t a m g h1 h2 h3 h4 h5 => rw [show r.txn = t from e2]; exact h1
  | abort t h1 => rw [show r.txn = t from e2]; exact h1
  | learn t y h1 => rw [show r.txn = t from e2]; exact h1
theorem recP_epoch {r : Rc} (h : RecP r.re) (hk : r.kind = 1) : 1 ≤ r.epoch ∧ r.epoch ≤ 255 := by
  generalize hr : r.re = x at h
  have e := congrArg Re.kind hr
  have e2 := congrArg Re.epoch hr
  cases h with
  | epoch e' h1 h2 => rw [show r.epoch = e' from e2]; exact ⟨h1, h2⟩
  | vote t y a m b h1 h2 h3 h4 => exact absurd (e.symm.trans hk) (by simp)
  | commit t a m g h1 h2 h3 h4 h5 => exact absurd (e.symm.trans hk) (by simp)
  | abort t h1 => exact absurd (e.symm.trans hk) (by simp)
  | learn t y h1 => exact absurd (e.symm.trans hk) (by simp)
/-- each method of the kind -/
theorem wmeth_ok {r : Rc} (h : RecP r.re) (hl : RcLim r) {nm : String} (hn : nm ∈ methL r.kind) : ∃ f, MethOk Try.prog 44 nm f ∧ ∀ (M : Mem) (L : HL) (bw br : Nat) (s : ByteArray), Cells M [] br 0 (rcC r) → MbOk M r.mem → StOk M r.tags → s.size < 1000000 →
    Tr Try.prog f [.pointer (some ⟨bw, 0, none⟩)] M (wrB bw br s :: L) (fun v M' L' => v = .tuple ⟨[]⟩ ∧ M.le M' ∧ L' = wrB bw br (s ++ wroteB r nm) :: L) := by
  have hk := h.kind
  have hk : r.kind = 1 ∨ r.kind = 2 ∨ r.kind = 3 ∨ r.kind = 4 := by have h1 : r.re.kind = r.kind := rfl; omega
  have orgR : ∀ {a : Int}, orgW a = true → 0 ≤ a ∧ a < 4611686018427387904 := fun ha => by simp [orgW] at ha; omega
  have hml : mayMb r.txn r.mem.xs = true → mbLim r.mem.xs := fun hm m hmm => ⟨(mayMb_r hm).2 m hmm, hl.dig m hmm⟩
  have htxn : r.kind ≠ 1 → ∃ f, MethOk Try.prog 44 "chirograph/record.txn" f ∧ ∀ (M : Mem) (L : HL) (bw br : Nat) (s : ByteArray), Cells M [] br 0 (rcC r) → MbOk M r.mem → StOk M r.tags → s.size < 1000000 →
      Tr Try.prog f [.pointer (some ⟨bw, 0, none⟩)] M (wrB bw br s :: L) (fun v M' L' => v = .tuple ⟨[]⟩ ∧ M.le M' ∧ L' = wrB bw br (s ++ wroteB r "chirograph/record.txn") :: L) := fun hk1 =>
    ⟨_, mw_txn, fun M L bw br s hr _ _ hs => by rw [w_txn]; exact wtxn_ok M L bw br s r hr (recP_txn h hk1) (by omega)⟩
  have hyes : ∃ f, MethOk Try.prog 44 "chirograph/record.yes" f ∧ ∀ (M : Mem) (L : HL) (bw br : Nat) (s : ByteArray), Cells M [] br 0 (rcC r) → MbOk M r.mem → StOk M r.tags → s.size < 1000000 →
      Tr Try.prog f [.pointer (some ⟨bw, 0, none⟩)] M (wrB bw br s :: L) (fun v M' L' => v = .tuple ⟨[]⟩ ∧ M.le M' ∧ L' = wrB bw br (s ++ wroteB r "chirograph/record.yes") :: L) :=
    ⟨_, mw_yes, fun M L bw br s hr _ _ hs => by rw [w_yes]; exact wyes_ok M L bw br s r hr (by omega)⟩
  rcases hk with k | k | k | k
  · rw [k, meth1] at hn
    simp only [List.mem_cons, List.not_mem_nil, or_false] at hn
    subst hn
    have := recP_epoch h k
    exact ⟨_, mw_epoch, fun M L bw br s hr _ _ hs => by rw [w_epoch]; exact wepoch_ok M L bw br s r hr (by omega) (by omega)⟩
  · rw [k, meth2] at hn
    obtain ⟨h1, h2, h3⟩ := recP_vote h k
    simp only [List.mem_cons, List.not_mem_nil, or_false] at hn
    rcases hn with rfl | rfl | rfl | rfl | rfl
    · exact htxn (by omega)
    · exact hyes
    · exact ⟨_, mw_auditor, fun M L bw br s hr _ _ hs => by rw [w_auditor]; exact wauditor_ok M L bw br s r hr (orgR h2) (by omega)⟩
    · exact ⟨_, mw_members, fun M L bw br s hr hm _ hs => by rw [w_members]; exact wmembers_ok M L bw br s r hr hm (hml h3) (by omega)⟩
    · exact ⟨_, mw_body, fun M L bw br s hr _ _ hs => by rw [w_body]; exact wbody_ok M L bw br s r hr hl.body (by omega)⟩
  · rw [k, meth3] at hn
    simp only [List.mem_cons, List.not_mem_nil, or_false] at hn
    rcases hn with rfl | rfl | rfl
    · exact htxn (by omega)
    · exact hyes
    · exact ⟨_, mw_more, fun M L bw br s hr hm ht hs => by rw [w_more]; exact wmore_ok M L bw br s r hr hm (fun hy => hml (recP_commit h k hy).2) ht (fun _ => hl.tag) (fun hy => orgR (recP_commit h k hy).1) hs⟩
  · rw [k, meth4] at hn
    simp only [List.mem_cons, List.not_mem_nil, or_false] at hn
    rcases hn with rfl | rfl
    · exact htxn (by omega)
    · exact hyes
theorem wroteL_take (r : Rc) (l : List String) (j : Nat) : (wroteL r (l.take j)).size ≤ (wroteL r l).size := by
  induction l generalizing j with
  | nil => simp
  | cons x l ih =>
    cases j with
    | zero => exact Nat.zero_le _
    | succ j =>
      have := ih j
      rw [List.take_succ_cons, wroteL, wroteL, app_size, app_size]
      omega
end Go.Proofs.Ytpjklbkfhgfmnaa
namespace Go.Proofs.Ytpjklbkfhgfmnaa
open Go.Chi

/-- a record's bytes, or why there are none -/
def encE (r : Rc) : ByteArray × Int := if recE r ≠ 0 then (⟨#[]⟩, recE r) else if 8192 < (recB r.re).size then (⟨#[]⟩, 5) else (recB r.re, 0)
theorem recE_re {M : Mem} {r : Rc} (hr : RcOk M r) : recE r = 0 ↔ RecP r.re := recE_iff hr.mem.len hr.tags.len
theorem RcOk.le {M M' : Mem} {r : Rc} (hm : M.le M') (h : RcOk M r) : RcOk M' r := ⟨h.mem.le hm, h.tags.le hm, h.dig, h.tag, h.body⟩
theorem methL_len (k : Int) : (methL k).length ≤ 5 := by
  unfold methL
  split
  · decide
  split
  · decide
  split
  · decide
  split <;> decide
set_option maxRecDepth 10000 in
set_option maxHeartbeats 16000000 in
theorem encode_ok (M : Mem) (L : HL) (r : Rc) (hr : RcOk M r) (hl : RcLim r) (hsz : recE r = 0 → (recB r.re).size < 1000000) : TrQ Try.prog 10 [.agg ⟨rcC r⟩] M L (.tuple ⟨[.string (encE r).1, .int .i64 (encE r).2]⟩) := by
  refine Tr.intro 42 Try.func10 rfl rfl Try.call10 rfl ?_
  intro C hC hro
  repeat (first | with_reducible (first | refine run_seq ?_ | refine run_region ?_ | refine runL_nil ?_ | refine run_skip ?_ | refine run_block ?_ | refine run_inBlock ?_) | refine run_exit rfl ?_ | refine runL_q (qt_pev tok rfl) rfl rfl rfl ?_ | refine runL_g rfl rfl (qt_pev tok rfl) rfl rfl rfl rfl rfl ?_ | refine runL_q (ql tok rfl) rfl rfl rfl ?_ | refine runL_g rfl rfl (ql tok rfl) rfl rfl rfl rfl rfl ?_ | (refine runL_op0 (sst tok rfl rfl rfl rfl rfl) ?_; rintro _ _ _ ⟨rfl, rfl, rfl⟩) | (refine runL_op (st_box rfl) rfl rfl rfl ?_; rintro _ _ _ ⟨_, rfl, rfl, rfl⟩) | (refine runL_op (st_alloc tok rfl) rfl rfl rfl ?_; rintro _ _ _ ⟨_, rfl, rfl, rfl⟩) | (refine runL_op (st_buildSlice tok rfl rfl rfl rfl rfl rfl rfl) rfl rfl rfl ?_; rintro _ _ _ ⟨_, rfl, rfl, rfl⟩) | refine runL_q (qt_callF rfl (fun _ => recCheck_ok _ _ r hr)) rfl rfl rfl ?_)
  refine run_cond rfl (fun h => ?_) (fun h => ?_)
  · have h0 : recE r ≠ 0 := by simpa using h
    repeat (first | with_reducible (first | refine run_seq ?_ | refine run_region ?_ | refine runL_nil ?_ | refine run_skip ?_ | refine run_block ?_ | refine run_inBlock ?_) | refine run_exit rfl ?_ | refine runL_q (qt_pev tok rfl) rfl rfl rfl ?_ | refine runL_g rfl rfl (qt_pev tok rfl) rfl rfl rfl rfl rfl ?_ | refine runL_q (ql tok rfl) rfl rfl rfl ?_ | refine runL_g rfl rfl (ql tok rfl) rfl rfl rfl rfl rfl ?_ | (refine runL_op0 (sst tok rfl rfl rfl rfl rfl) ?_; rintro _ _ _ ⟨rfl, rfl, rfl⟩) | (refine runL_op (st_box rfl) rfl rfl rfl ?_; rintro _ _ _ ⟨_, rfl, rfl, rfl⟩) | (refine runL_op (st_alloc tok rfl) rfl rfl rfl ?_; rintro _ _ _ ⟨_, rfl, rfl, rfl⟩) | (refine runL_op (st_buildSlice tok rfl rfl rfl rfl rfl rfl rfl) rfl rfl rfl ?_; rintro _ _ _ ⟨_, rfl, rfl, rfl⟩))
    exact run_ret hC (rs := [.tmp 2, .tmp 3]) rfl (resT rfl (resT rfl resN)) (fun _ h => h.drop) ⟨by rw [encE, if_pos h0]; rfl, rfl, rfl⟩
  have h0 : recE r = 0 := by simpa using h
  have hp := (recE_re hr).1 h0
  have hsz := hsz h0
  have hrs := recB_size r.re
  refine run_frz 0 rfl ?_
  intro M0 hM0 hb0
  have hc0 := Cells.ofBlk hb0
  refine run_skip ?_
  repeat (first | with_reducible (first | refine run_seq ?_ | refine run_region ?_ | refine runL_nil ?_ | refine run_skip ?_ | refine run_block ?_ | refine run_inBlock ?_) | refine run_exit rfl ?_ | refine runL_q (qt_pev tok rfl) rfl rfl rfl ?_ | refine runL_g rfl rfl (qt_pev tok rfl) rfl rfl rfl rfl rfl ?_ | refine runL_q (ql tok rfl) rfl rfl rfl ?_ | refine runL_g rfl rfl (ql tok rfl) rfl rfl rfl rfl rfl ?_ | (refine runL_op0 (sst tok rfl rfl rfl rfl rfl) ?_; rintro _ _ _ ⟨rfl, rfl, rfl⟩) | (refine runL_op (st_box rfl) rfl rfl rfl ?_; rintro _ _ _ ⟨_, rfl, rfl, rfl⟩) | (refine runL_op (st_alloc tok rfl) rfl rfl rfl ?_; rintro _ _ _ ⟨_, rfl, rfl, rfl⟩) | (refine runL_op (st_buildSlice tok rfl rfl rfl rfl rfl rfl rfl) rfl rfl rfl ?_; rintro _ _ _ ⟨_, rfl, rfl, rfl⟩) | refine runL_q (qt_ldM (k := 0) tok rfl hc0 rfl) rfl rfl rfl ?_ | refine runL_q (qt_bytesStr tok [r.kind] rfl rfl rfl rfl (cellsAll List.mem_cons_self) rfl) rfl rfl rfl ?_ | refine runL_q (qt_makeIfaceC tok rfl rfl rfl) rfl rfl rfl ?_ | refine runL_op (st_callF rfl (fun _ => of_ok _ _ _ _ _)) rfl rfl rfl ?_; rintro _ M1 _ ⟨hM1, rfl, a, c, rfl, hsl⟩)
  rename_i br bk bw
  have hc1 := hc0.le hM1
  have hm1 := (hr.mem.le hM0).le hM1
  have ht1 := (hr.tags.le hM0).le hM1
  refine run_mem (M' := M1) (L' := wrB bw br (bytesI [r.kind]) :: L) (fun _ h => (h.perm (List.Perm.swap _ _ _)).drop) ?_
  refine run_loopN (fun j σ1 M2 L1 => j ≤ (methL r.kind).length ∧ M1.le M2 ∧ L1 = wrB bw br (bytesI [r.kind] ++ wroteL r ((methL r.kind).take j)) :: L ∧ σ1 = [(25, .int .i64 (j : Int)), (24, .int .i64 ((methL r.kind).length : Int)), (23, .slice a (methL r.kind).length c), (5, .pointer (some ⟨bw, 0, none⟩))]) (methL r.kind).length [(25, .int .i64 ((0 : Nat) : Int)), (24, .int .i64 ((methL r.kind).length : Int)), (23, .slice a (methL r.kind).length c), (5, .pointer (some ⟨bw, 0, none⟩))] ?_ ⟨Nat.zero_le _, Mem.le_refl _, by rw [List.take_zero, wroteL, app_bz], rfl⟩ (fun j _ _ _ h => h.1) ?_
  · exact ⟨rfl, rfl, rfl, rfl, trivial⟩
  rintro j _ M2 _ ⟨hj, hM2, rfl, rfl⟩ hnext
  have hwl := wrote_all hp
  have hzj : (bytesI [r.kind] ++ wroteL r ((methL r.kind).take j)).size < 1000000 := by
    have := wroteL_take r (methL r.kind) j
    rw [hwl] at this
    rw [app_size, bytesI_one]
    omega
  repeat (first | with_reducible (first | refine run_seq ?_ | refine run_region ?_ | refine runL_nil ?_ | refine run_skip ?_ | refine run_block ?_ | refine run_inBlock ?_) | refine run_exit rfl ?_ | refine runL_q (qt_pev tok rfl) rfl rfl rfl ?_ | refine runL_g rfl rfl (qt_pev tok rfl) rfl rfl rfl rfl rfl ?_ | refine runL_q (ql tok rfl) rfl rfl rfl ?_ | refine runL_g rfl rfl (ql tok rfl) rfl rfl rfl rfl rfl ?_ | (refine runL_op0 (sst tok rfl rfl rfl rfl rfl) ?_; rintro _ _ _ ⟨rfl, rfl, rfl⟩) | (refine runL_op (st_box rfl) rfl rfl rfl ?_; rintro _ _ _ ⟨_, rfl, rfl, rfl⟩) | (refine runL_op (st_alloc tok rfl) rfl rfl rfl ?_; rintro _ _ _ ⟨_, rfl, rfl, rfl⟩) | (refine runL_op (st_buildSlice tok rfl rfl rfl rfl rfl rfl rfl) rfl rfl rfl ?_; rintro _ _ _ ⟨_, rfl, rfl, rfl⟩))
  refine run_cond rfl (fun h => ?_) (fun h => ?_)
  · have hlt : j < (methL r.kind).length := by simpa using h
    have hl5 := methL_len r.kind
    obtain ⟨b, off, cl, rfl, hcl, _, hcells⟩ := (hsl.le hM2).at_ hlt
    obtain ⟨nm, hnm, rfl⟩ : ∃ nm, (methL r.kind)[j]? = some nm ∧ [mv 44 (.pointer (some ⟨bw, 0, none⟩)) nm] = cl := by simpa using hcl
    obtain ⟨f, hf, htr⟩ := wmeth_ok hp hl (List.mem_of_getElem? hnm)
    repeat (first | with_reducible (first | refine run_seq ?_ | refine run_region ?_ | refine runL_nil ?_ | refine run_skip ?_ | refine run_block ?_ | refine run_inBlock ?_) | refine run_exit rfl ?_ | refine runL_q (qt_pev tok rfl) rfl rfl rfl ?_ | refine runL_g rfl rfl (qt_pev tok rfl) rfl rfl rfl rfl rfl ?_ | refine runL_q (ql tok rfl) rfl rfl rfl ?_ | refine runL_g rfl rfl (ql tok rfl) rfl rfl rfl rfl rfl ?_ | (refine runL_op0 (sst tok rfl rfl rfl rfl rfl) ?_; rintro _ _ _ ⟨rfl, rfl, rfl⟩) | (refine runL_op (st_box rfl) rfl rfl rfl ?_; rintro _ _ _ ⟨_, rfl, rfl, rfl⟩) | (refine runL_op (st_alloc tok rfl) rfl rfl rfl ?_; rintro _ _ _ ⟨_, rfl, rfl, rfl⟩) | (refine runL_op (st_buildSlice tok rfl rfl rfl rfl rfl rfl rfl) rfl rfl rfl ?_; rintro _ _ _ ⟨_, rfl, rfl, rfl⟩) | refine runL_q (qt_indexN tok rfl rfl rfl rfl (fun _ => by omega)) rfl rfl rfl ?_ | refine runL_g rfl rfl (qt_indexN tok rfl rfl rfl rfl (fun _ => by omega)) rfl rfl rfl rfl rfl ?_ | refine runL_q (qt_ldM tok rfl hcells rfl) rfl rfl rfl ?_ | refine runL_g rfl rfl (qt_ldM tok rfl hcells rfl) rfl rfl rfl rfl rfl ?_ | refine runL_q (qt_ldM0 tok rfl hcells rfl) rfl rfl rfl ?_ | refine runL_g rfl rfl (qt_ldM0 tok rfl hcells rfl) rfl rfl rfl rfl rfl ?_ | refine runL_op (st_callM rfl rfl hf (fun _ => htr M2 L bw br _ (hc1.le hM2) (hm1.le hM2) (ht1.le hM2) hzj)) rfl rfl rfl ?_; rintro _ M3 _ ⟨rfl, hM3, rfl⟩)
    refine run_sub' (hnext _ _ _ ⟨hlt, Mem.le_trans hM2 hM3, ?_, rfl⟩) ⟨lk_succ rfl (by omega), rfl, rfl, rfl, trivial⟩
    rw [take_snoc hnm, wroteL_snoc, app_assoc]
  · have hge : j = (methL r.kind).length := by simp at h; omega
    subst hge
    rw [List.take_of_length_le (Nat.le_refl _), hwl]
    have hrB : bytesI [r.kind] ++ bodyB r.re = recB r.re := rfl
    rw [hrB]
    have hle : M.le M2 := Mem.le_trans hM0 (Mem.le_trans hM1 hM2)
    repeat (first | with_reducible (first | refine run_seq ?_ | refine run_region ?_ | refine runL_nil ?_ | refine run_skip ?_ | refine run_block ?_ | refine run_inBlock ?_) | refine run_exit rfl ?_ | refine runL_q (qt_pev tok rfl) rfl rfl rfl ?_ | refine runL_g rfl rfl (qt_pev tok rfl) rfl rfl rfl rfl rfl ?_ | refine runL_q (ql tok rfl) rfl rfl rfl ?_ | refine runL_g rfl rfl (ql tok rfl) rfl rfl rfl rfl rfl ?_ | (refine runL_op0 (sst tok rfl rfl rfl rfl rfl) ?_; rintro _ _ _ ⟨rfl, rfl, rfl⟩) | (refine runL_op (st_box rfl) rfl rfl rfl ?_; rintro _ _ _ ⟨_, rfl, rfl, rfl⟩) | (refine runL_op (st_alloc tok rfl) rfl rfl rfl ?_; rintro _ _ _ ⟨_, rfl, rfl, rfl⟩) | (refine runL_op (st_buildSlice tok rfl rfl rfl rfl rfl rfl rfl) rfl rfl rfl ?_; rintro _ _ _ ⟨_, rfl, rfl, rfl⟩))
    refine run_cond rfl (fun h => ?_) (fun h => ?_)
    · have hgt : 8192 < (recB r.re).size := by simp at h; omega
      repeat (first | with_reducible (first | refine run_seq ?_ | refine run_region ?_ | refine runL_nil ?_ | refine run_skip ?_ | refine run_block ?_ | refine run_inBlock ?_) | refine run_exit rfl ?_ | refine runL_q (qt_pev tok rfl) rfl rfl rfl ?_ | refine runL_g rfl rfl (qt_pev tok rfl) rfl rfl rfl rfl rfl ?_ | refine runL_q (ql tok rfl) rfl rfl rfl ?_ | refine runL_g rfl rfl (ql tok rfl) rfl rfl rfl rfl rfl ?_ | (refine runL_op0 (sst tok rfl rfl rfl rfl rfl) ?_; rintro _ _ _ ⟨rfl, rfl, rfl⟩) | (refine runL_op (st_box rfl) rfl rfl rfl ?_; rintro _ _ _ ⟨_, rfl, rfl, rfl⟩) | (refine runL_op (st_alloc tok rfl) rfl rfl rfl ?_; rintro _ _ _ ⟨_, rfl, rfl, rfl⟩) | (refine runL_op (st_buildSlice tok rfl rfl rfl rfl rfl rfl rfl) rfl rfl rfl ?_; rintro _ _ _ ⟨_, rfl, rfl, rfl⟩))
      exact run_ret hC (rs := [.tmp 2, .tmp 3]) rfl (resT rfl (resT rfl resN)) (fun _ h => h.drop.of_le hle) ⟨by rw [encE, if_neg (by simp [h0]), if_pos hgt]; rfl, rfl, rfl⟩
    · have hgt : ¬ 8192 < (recB r.re).size := by simp at h; omega
      repeat (first | with_reducible (first | refine run_seq ?_ | refine run_region ?_ | refine runL_nil ?_ | refine run_skip ?_ | refine run_block ?_ | refine run_inBlock ?_) | refine run_exit rfl ?_ | refine runL_q (qt_pev tok rfl) rfl rfl rfl ?_ | refine runL_g rfl rfl (qt_pev tok rfl) rfl rfl rfl rfl rfl ?_ | refine runL_q (ql tok rfl) rfl rfl rfl ?_ | refine runL_g rfl rfl (ql tok rfl) rfl rfl rfl rfl rfl ?_ | (refine runL_op0 (sst tok rfl rfl rfl rfl rfl) ?_; rintro _ _ _ ⟨rfl, rfl, rfl⟩) | (refine runL_op (st_box rfl) rfl rfl rfl ?_; rintro _ _ _ ⟨_, rfl, rfl, rfl⟩) | (refine runL_op (st_alloc tok rfl) rfl rfl rfl ?_; rintro _ _ _ ⟨_, rfl, rfl, rfl⟩) | (refine runL_op (st_buildSlice tok rfl rfl rfl rfl rfl rfl rfl) rfl rfl rfl ?_; rintro _ _ _ ⟨_, rfl, rfl, rfl⟩))
      exact run_ret hC (rs := [.tmp 2, .tmp 3]) rfl (resT rfl (resT rfl resN)) (fun _ h => h.drop.of_le hle) ⟨by rw [encE, if_neg (by simp [h0]), if_neg hgt]; rfl, rfl, rfl⟩
end Go.Proofs.Ytpjklbkfhgfmnaa
namespace Go.Proofs.Ytpjklbkfhgfmnaa
open Go.Chi

/-! ### the document's bytes of a record -/
theorem yB_true : yB true = ⟨#[1]⟩ := by rw [yB, if_pos rfl, nB, numB, if_pos (by decide)]; rfl
theorem yB_false : yB false = ⟨#[0]⟩ := by rw [yB, if_neg (by decide), nB, numB, if_pos (by decide)]; rfl
set_option maxRecDepth 10000 in
set_option maxHeartbeats 16000000 in
theorem dbytes_ok (M : Mem) (L : HL) (r : Rc) (hr : RcOk M r) (hl : RcLim r) (hp : RecP r.re) : TrQ Try.prog 20 [.agg ⟨rcC r⟩] M L (.string (recB r.re)) := by
  have hk := hp.kind
  have e1 : r.re.kind = r.kind := rfl
  have orgR : ∀ {a : Int}, orgW a = true → 0 ≤ a ∧ a < 4611686018427387904 := fun ha => by simp [orgW] at ha; omega
  refine Tr.intro 89 Try.func20 rfl rfl Try.call20 rfl ?_
  intro C hC hro
  repeat (first | with_reducible (first | refine run_seq ?_ | refine run_region ?_ | refine runL_nil ?_ | refine run_skip ?_ | refine run_block ?_ | refine run_inBlock ?_) | refine run_exit rfl ?_ | refine runL_q (qt_pev tok rfl) rfl rfl rfl ?_ | refine runL_g rfl rfl (qt_pev tok rfl) rfl rfl rfl rfl rfl ?_ | refine runL_q (ql tok rfl) rfl rfl rfl ?_ | refine runL_g rfl rfl (ql tok rfl) rfl rfl rfl rfl rfl ?_ | (refine runL_op0 (sst tok rfl rfl rfl rfl rfl) ?_; rintro _ _ _ ⟨rfl, rfl, rfl⟩) | (refine runL_op (st_box rfl) rfl rfl rfl ?_; rintro _ _ _ ⟨_, rfl, rfl, rfl⟩) | (refine runL_op (st_alloc tok rfl) rfl rfl rfl ?_; rintro _ _ _ ⟨_, rfl, rfl, rfl⟩) | (refine runL_op (st_buildSlice tok rfl rfl rfl rfl rfl rfl rfl) rfl rfl rfl ?_; rintro _ _ _ ⟨_, rfl, rfl, rfl⟩) | refine runL_q (qt_bytesStr tok [r.kind] rfl rfl rfl rfl (cellsAll List.mem_cons_self) rfl) rfl rfl rfl ?_)
  rename_i b1 bk
  have hk1 : (bytesI [r.kind]).size = 1 := bytesI_one _
  refine run_cond rfl (fun h => ?_) (fun h => ?_)
  · have k1 : r.kind = 1 := by simpa using h
    have hep := recP_epoch hp k1
    have hz := nB_size (n := r.epoch) (by omega)
    repeat (first | with_reducible (first | refine run_seq ?_ | refine run_region ?_ | refine runL_nil ?_ | refine run_skip ?_ | refine run_block ?_ | refine run_inBlock ?_) | refine run_exit rfl ?_ | refine runL_q (qt_pev tok rfl) rfl rfl rfl ?_ | refine runL_g rfl rfl (qt_pev tok rfl) rfl rfl rfl rfl rfl ?_ | refine runL_q (ql tok rfl) rfl rfl rfl ?_ | refine runL_g rfl rfl (ql tok rfl) rfl rfl rfl rfl rfl ?_ | (refine runL_op0 (sst tok rfl rfl rfl rfl rfl) ?_; rintro _ _ _ ⟨rfl, rfl, rfl⟩) | (refine runL_op (st_box rfl) rfl rfl rfl ?_; rintro _ _ _ ⟨_, rfl, rfl, rfl⟩) | (refine runL_op (st_alloc tok rfl) rfl rfl rfl ?_; rintro _ _ _ ⟨_, rfl, rfl, rfl⟩) | (refine runL_op (st_buildSlice tok rfl rfl rfl rfl rfl rfl rfl) rfl rfl rfl ?_; rintro _ _ _ ⟨_, rfl, rfl, rfl⟩) | refine runL_q (qt_callF rfl (fun _ => dnum_ok _ _ r.epoch (by omega))) rfl rfl rfl ?_ | refine runL_q (qt_concat rfl rfl (by omega)) rfl rfl rfl ?_)
    refine run_ret hC (rs := [.tmp 2]) rfl (resT rfl resN) (fun _ h => h.drop.drop) ⟨?_, rfl, rfl⟩
    rw [recB, bodyB, if_pos (e1.trans k1)]; rfl
  have k1 : ¬ r.kind = 1 := by simpa using h
  have htx := recP_txn hp k1
  obtain ⟨t1, t2, t3⟩ := mayTx_r htx
  have z1 := nB_size (n := r.txn.coord) (by omega)
  have z2 := nB_size (n := r.txn.epoch) (by omega)
  have z3 := nB_size (n := r.txn.seq) (by omega)
  have c2 : (bytesI [r.kind] ++ nB r.txn.coord).size + (nB r.txn.epoch).size < 4611686018427387904 := by rw [app_size]; omega
  have c3 : (bytesI [r.kind] ++ nB r.txn.coord ++ nB r.txn.epoch).size + (nB r.txn.seq).size < 4611686018427387904 := by rw [app_size, app_size]; omega
  repeat (first | with_reducible (first | refine run_seq ?_ | refine run_region ?_ | refine runL_nil ?_ | refine run_skip ?_ | refine run_block ?_ | refine run_inBlock ?_) | refine run_exit rfl ?_ | refine runL_q (qt_pev tok rfl) rfl rfl rfl ?_ | refine runL_g rfl rfl (qt_pev tok rfl) rfl rfl rfl rfl rfl ?_ | refine runL_q (ql tok rfl) rfl rfl rfl ?_ | refine runL_g rfl rfl (ql tok rfl) rfl rfl rfl rfl rfl ?_ | (refine runL_op0 (sst tok rfl rfl rfl rfl rfl) ?_; rintro _ _ _ ⟨rfl, rfl, rfl⟩) | (refine runL_op (st_box rfl) rfl rfl rfl ?_; rintro _ _ _ ⟨_, rfl, rfl, rfl⟩) | (refine runL_op (st_alloc tok rfl) rfl rfl rfl ?_; rintro _ _ _ ⟨_, rfl, rfl, rfl⟩) | (refine runL_op (st_buildSlice tok rfl rfl rfl rfl rfl rfl rfl) rfl rfl rfl ?_; rintro _ _ _ ⟨_, rfl, rfl, rfl⟩) | refine prn_start mixed ?_ | refine prn_end (by decide +kernel) ?_ | refine prn_q rfl (qt_pev tok rfl) (by decide +kernel) rfl rfl rfl ?_ | refine prn_g rfl rfl rfl (qt_pev tok rfl) (by decide +kernel) rfl rfl rfl rfl rfl ?_ | refine prn_q rfl (ql tok rfl) (by decide +kernel) rfl rfl rfl ?_ | refine prn_g rfl rfl rfl (ql tok rfl) (by decide +kernel) rfl rfl rfl rfl rfl ?_ | (refine prn_e0 rfl (sst tok rfl rfl rfl rfl rfl) (by decide +kernel) ?_; rintro _ _ _ ⟨rfl, rfl, rfl⟩) | (refine prn_e1 rfl (st_box rfl) (by decide +kernel) rfl rfl rfl ?_; rintro _ _ _ ⟨_, rfl, rfl, rfl⟩) | (refine prn_e1 rfl (st_alloc tok rfl) (by decide +kernel) rfl rfl rfl ?_; rintro _ _ _ ⟨_, rfl, rfl, rfl⟩) | (refine prn_e1 rfl (st_buildSlice tok rfl rfl rfl rfl rfl rfl rfl) (by decide +kernel) rfl rfl rfl ?_; rintro _ _ _ ⟨_, rfl, rfl, rfl⟩) | (refine prn_o0 rfl (sst tok rfl rfl rfl rfl rfl) (by decide +kernel) ?_; rintro _ _ _ ⟨rfl, rfl, rfl⟩; refine ⟨by (repeat (first | exact trivial | refine And.intro (pend_q rfl rfl rfl (qt_pev tok rfl)) ?_ | refine And.intro (pend_q rfl rfl rfl (ql tok rfl)) ?_)), ?_⟩) | (refine prn_o1 rfl (st_box rfl) (by decide +kernel) rfl rfl rfl ?_; rintro _ _ _ ⟨_, rfl, rfl, rfl⟩; refine ⟨by (repeat (first | exact trivial | refine And.intro (pend_q rfl rfl rfl (qt_pev tok rfl)) ?_ | refine And.intro (pend_q rfl rfl rfl (ql tok rfl)) ?_)), ?_⟩) | (refine prn_o1 rfl (st_alloc tok rfl) (by decide +kernel) rfl rfl rfl ?_; rintro _ _ _ ⟨_, rfl, rfl, rfl⟩; refine ⟨by (repeat (first | exact trivial | refine And.intro (pend_q rfl rfl rfl (qt_pev tok rfl)) ?_ | refine And.intro (pend_q rfl rfl rfl (ql tok rfl)) ?_)), ?_⟩) | (refine prn_o1 rfl (st_buildSlice tok rfl rfl rfl rfl rfl rfl rfl) (by decide +kernel) rfl rfl rfl ?_; rintro _ _ _ ⟨_, rfl, rfl, rfl⟩; refine ⟨by (repeat (first | exact trivial | refine And.intro (pend_q rfl rfl rfl (qt_pev tok rfl)) ?_ | refine And.intro (pend_q rfl rfl rfl (ql tok rfl)) ?_)), ?_⟩) | (refine prn_e1 rfl (qt_pev tok rfl) (by decide +kernel) rfl rfl rfl ?_; rintro _ _ _ ⟨rfl, rfl, rfl⟩) | refine prn_q rfl (qt_callF rfl (fun _ => dnum_ok _ _ r.txn.coord (by omega))) (by decide +kernel) rfl rfl rfl ?_ | refine prn_q rfl (qt_callF rfl (fun _ => dnum_ok _ _ r.txn.epoch (by omega))) (by decide +kernel) rfl rfl rfl ?_ | refine prn_q rfl (qt_callF rfl (fun _ => dnum_ok _ _ r.txn.seq (by omega))) (by decide +kernel) rfl rfl rfl ?_ | refine prn_q rfl (qt_concat rfl rfl (by omega)) (by decide +kernel) rfl rfl rfl ?_ | refine prn_q rfl (qt_concat rfl rfl c2) (by decide +kernel) rfl rfl rfl ?_ | refine prn_q rfl (qt_concat rfl rfl c3) (by decide +kernel) rfl rfl rfl ?_)
  have hS0 : (bytesI [r.kind] ++ nB r.txn.coord ++ nB r.txn.epoch ++ nB r.txn.seq).size + 1 < 4611686018427387904 := by rw [app_size, app_size, app_size]; omega
  have hS1 : (bytesI [r.kind] ++ (txB r.txn ++ yB r.yes)).size ≤ 100 := by
    have : (yB r.yes).size = 1 := by
      cases r.yes
      · rw [yB_false]; rfl
      · rw [yB_true]; rfl
    rw [app_size, app_size, txB, app_size, app_size]; omega
  have hassoc : ∀ y, bytesI [r.kind] ++ nB r.txn.coord ++ nB r.txn.epoch ++ nB r.txn.seq ++ y = bytesI [r.kind] ++ (txB r.txn ++ y) := fun y => by simp only [txB, app_assoc]
  rename_i M0
  refine run_cut (fun σ' M' L' => σ' = [(3, .string (bytesI [r.kind] ++ (txB r.txn ++ yB r.yes))), (1, .pointer (some ⟨b1, 0, none⟩))] ∧ M' = M0 ∧ L' = (b1, .cells ⟨rcC r⟩ 27 (0, 0)) :: L) ?_ ?_
  rotate_left
  · intro hnext
    refine run_mem (fun _ h => h.drop) ?_
    refine run_cond rfl (fun h => ?_) (fun h => ?_)
    · refine run_region ?_
      repeat (first | refine runL_q (qt_pev tok rfl) rfl rfl rfl ?_ | refine runL_g rfl rfl (qt_pev tok rfl) rfl rfl rfl rfl rfl ?_ | refine runL_q (ql tok rfl) rfl rfl rfl ?_ | refine runL_g rfl rfl (ql tok rfl) rfl rfl rfl rfl rfl ?_ | (refine runL_op0 (sst tok rfl rfl rfl rfl rfl) ?_; rintro _ _ _ ⟨rfl, rfl, rfl⟩) | (refine runL_op (st_box rfl) rfl rfl rfl ?_; rintro _ _ _ ⟨_, rfl, rfl, rfl⟩) | (refine runL_op (st_alloc tok rfl) rfl rfl rfl ?_; rintro _ _ _ ⟨_, rfl, rfl, rfl⟩) | (refine runL_op (st_buildSlice tok rfl rfl rfl rfl rfl rfl rfl) rfl rfl rfl ?_; rintro _ _ _ ⟨_, rfl, rfl, rfl⟩) | refine runL_q (qt_concat rfl rfl hS0) rfl rfl rfl ?_)
      refine runL_nil ?_
      exact run_sub' (hnext _ _ _ ⟨rfl, rfl, rfl⟩) ⟨by rw [h, yB_true, ← hassoc]; rfl, rfl, trivial⟩
    · refine run_region ?_
      repeat (first | refine runL_q (qt_pev tok rfl) rfl rfl rfl ?_ | refine runL_g rfl rfl (qt_pev tok rfl) rfl rfl rfl rfl rfl ?_ | refine runL_q (ql tok rfl) rfl rfl rfl ?_ | refine runL_g rfl rfl (ql tok rfl) rfl rfl rfl rfl rfl ?_ | (refine runL_op0 (sst tok rfl rfl rfl rfl rfl) ?_; rintro _ _ _ ⟨rfl, rfl, rfl⟩) | (refine runL_op (st_box rfl) rfl rfl rfl ?_; rintro _ _ _ ⟨_, rfl, rfl, rfl⟩) | (refine runL_op (st_alloc tok rfl) rfl rfl rfl ?_; rintro _ _ _ ⟨_, rfl, rfl, rfl⟩) | (refine runL_op (st_buildSlice tok rfl rfl rfl rfl rfl rfl rfl) rfl rfl rfl ?_; rintro _ _ _ ⟨_, rfl, rfl, rfl⟩) | refine runL_q (qt_concat rfl rfl hS0) rfl rfl rfl ?_)
      refine runL_nil ?_
      exact run_sub' (hnext _ _ _ ⟨rfl, rfl, rfl⟩) ⟨by rw [h, yB_false, ← hassoc]; rfl, rfl, trivial⟩
  rintro _ _ _ ⟨rfl, rfl, rfl⟩
  generalize hS : bytesI [r.kind] ++ (txB r.txn ++ yB r.yes) = S1 at hS1 ⊢
  repeat (first | with_reducible (first | refine run_seq ?_ | refine run_region ?_ | refine runL_nil ?_ | refine run_skip ?_ | refine run_block ?_ | refine run_inBlock ?_) | refine run_exit rfl ?_ | refine runL_q (qt_pev tok rfl) rfl rfl rfl ?_ | refine runL_g rfl rfl (qt_pev tok rfl) rfl rfl rfl rfl rfl ?_ | refine runL_q (ql tok rfl) rfl rfl rfl ?_ | refine runL_g rfl rfl (ql tok rfl) rfl rfl rfl rfl rfl ?_ | (refine runL_op0 (sst tok rfl rfl rfl rfl rfl) ?_; rintro _ _ _ ⟨rfl, rfl, rfl⟩) | (refine runL_op (st_box rfl) rfl rfl rfl ?_; rintro _ _ _ ⟨_, rfl, rfl, rfl⟩) | (refine runL_op (st_alloc tok rfl) rfl rfl rfl ?_; rintro _ _ _ ⟨_, rfl, rfl, rfl⟩) | (refine runL_op (st_buildSlice tok rfl rfl rfl rfl rfl rfl rfl) rfl rfl rfl ?_; rintro _ _ _ ⟨_, rfl, rfl, rfl⟩) | refine runL_q (qt_callF rfl (fun _ => dshort_ok _ _ r)) rfl rfl rfl ?_)
  refine run_cond rfl (fun h => ?_) (fun h => ?_)
  · repeat (first | with_reducible (first | refine run_seq ?_ | refine run_region ?_ | refine runL_nil ?_ | refine run_skip ?_ | refine run_block ?_ | refine run_inBlock ?_) | refine run_exit rfl ?_ | refine runL_q (qt_pev tok rfl) rfl rfl rfl ?_ | refine runL_g rfl rfl (qt_pev tok rfl) rfl rfl rfl rfl rfl ?_ | refine runL_q (ql tok rfl) rfl rfl rfl ?_ | refine runL_g rfl rfl (ql tok rfl) rfl rfl rfl rfl rfl ?_ | (refine runL_op0 (sst tok rfl rfl rfl rfl rfl) ?_; rintro _ _ _ ⟨rfl, rfl, rfl⟩) | (refine runL_op (st_box rfl) rfl rfl rfl ?_; rintro _ _ _ ⟨_, rfl, rfl, rfl⟩) | (refine runL_op (st_alloc tok rfl) rfl rfl rfl ?_; rintro _ _ _ ⟨_, rfl, rfl, rfl⟩) | (refine runL_op (st_buildSlice tok rfl rfl rfl rfl rfl rfl rfl) rfl rfl rfl ?_; rintro _ _ _ ⟨_, rfl, rfl, rfl⟩))
    refine run_ret hC (rs := [.tmp 2]) rfl (resT rfl resN) (fun _ h => h.drop) ⟨?_, rfl, rfl⟩
    have hh : r.kind = 4 ∨ (r.kind = 3 ∧ r.yes = false) := by
      simp [shortR] at h
      exact h
    rw [recB, ← hS]
    rcases hh with k | ⟨k, hy⟩
    · rw [bodyB, if_neg (by rw [e1, k]; decide), if_neg (by rw [e1, k]; decide), if_neg (by rw [e1, k]; decide), if_pos (e1.trans k)]
      rfl
    · rw [bodyB, if_neg (by rw [e1, k]; decide), if_neg (by rw [e1, k]; decide), if_pos (e1.trans k), if_neg (by rw [show r.re.yes = r.yes from rfl, hy]; decide), app_bz]
      rfl
  have hsh : r.kind = 2 ∨ (r.kind = 3 ∧ r.yes = true) := by
    simp [shortR] at h
    have hy : r.kind = 3 → r.yes = true := h.2
    by_cases k3 : r.kind = 3
    · exact .inr ⟨k3, hy k3⟩
    · have := h.1
      omega
  have hom : orgW r.auditor = true ∧ mayMb r.txn r.mem.xs = true := by
    rcases hsh with k | ⟨k, hy⟩
    · exact (recP_vote hp k).2
    · exact recP_commit hp k hy
  have hml : mbLim r.mem.xs := fun m hmm => ⟨(mayMb_r hom.2).2 m hmm, hl.dig m hmm⟩
  have hmlen := hr.mem.len
  have hm6 := hr.mem.2
  have z4 := nB_size (n := r.auditor) (orgR hom.1).2
  have z5 := nB_size (n := (r.mem.len : Int)) (by omega)
  have c4 : S1.size + (nB r.auditor).size < 4611686018427387904 := by omega
  have c5 : (S1 ++ nB r.auditor).size + (nB (r.mem.len : Int)).size < 4611686018427387904 := by rw [app_size]; omega
  refine run_skip ?_
  repeat (first | with_reducible (first | refine run_seq ?_ | refine run_region ?_ | refine runL_nil ?_ | refine run_skip ?_ | refine run_block ?_ | refine run_inBlock ?_) | refine run_exit rfl ?_ | refine runL_q (qt_pev tok rfl) rfl rfl rfl ?_ | refine runL_g rfl rfl (qt_pev tok rfl) rfl rfl rfl rfl rfl ?_ | refine runL_q (ql tok rfl) rfl rfl rfl ?_ | refine runL_g rfl rfl (ql tok rfl) rfl rfl rfl rfl rfl ?_ | (refine runL_op0 (sst tok rfl rfl rfl rfl rfl) ?_; rintro _ _ _ ⟨rfl, rfl, rfl⟩) | (refine runL_op (st_box rfl) rfl rfl rfl ?_; rintro _ _ _ ⟨_, rfl, rfl, rfl⟩) | (refine runL_op (st_alloc tok rfl) rfl rfl rfl ?_; rintro _ _ _ ⟨_, rfl, rfl, rfl⟩) | (refine runL_op (st_buildSlice tok rfl rfl rfl rfl rfl rfl rfl) rfl rfl rfl ?_; rintro _ _ _ ⟨_, rfl, rfl, rfl⟩) | refine prn_start mixed ?_ | refine prn_end (by decide +kernel) ?_ | refine prn_q rfl (qt_pev tok rfl) (by decide +kernel) rfl rfl rfl ?_ | refine prn_g rfl rfl rfl (qt_pev tok rfl) (by decide +kernel) rfl rfl rfl rfl rfl ?_ | refine prn_q rfl (ql tok rfl) (by decide +kernel) rfl rfl rfl ?_ | refine prn_g rfl rfl rfl (ql tok rfl) (by decide +kernel) rfl rfl rfl rfl rfl ?_ | (refine prn_e0 rfl (sst tok rfl rfl rfl rfl rfl) (by decide +kernel) ?_; rintro _ _ _ ⟨rfl, rfl, rfl⟩) | (refine prn_e1 rfl (st_box rfl) (by decide +kernel) rfl rfl rfl ?_; rintro _ _ _ ⟨_, rfl, rfl, rfl⟩) | (refine prn_e1 rfl (st_alloc tok rfl) (by decide +kernel) rfl rfl rfl ?_; rintro _ _ _ ⟨_, rfl, rfl, rfl⟩) | (refine prn_e1 rfl (st_buildSlice tok rfl rfl rfl rfl rfl rfl rfl) (by decide +kernel) rfl rfl rfl ?_; rintro _ _ _ ⟨_, rfl, rfl, rfl⟩) | (refine prn_o0 rfl (sst tok rfl rfl rfl rfl rfl) (by decide +kernel) ?_; rintro _ _ _ ⟨rfl, rfl, rfl⟩; refine ⟨by (repeat (first | exact trivial | refine And.intro (pend_q rfl rfl rfl (qt_pev tok rfl)) ?_ | refine And.intro (pend_q rfl rfl rfl (ql tok rfl)) ?_)), ?_⟩) | (refine prn_o1 rfl (st_box rfl) (by decide +kernel) rfl rfl rfl ?_; rintro _ _ _ ⟨_, rfl, rfl, rfl⟩; refine ⟨by (repeat (first | exact trivial | refine And.intro (pend_q rfl rfl rfl (qt_pev tok rfl)) ?_ | refine And.intro (pend_q rfl rfl rfl (ql tok rfl)) ?_)), ?_⟩) | (refine prn_o1 rfl (st_alloc tok rfl) (by decide +kernel) rfl rfl rfl ?_; rintro _ _ _ ⟨_, rfl, rfl, rfl⟩; refine ⟨by (repeat (first | exact trivial | refine And.intro (pend_q rfl rfl rfl (qt_pev tok rfl)) ?_ | refine And.intro (pend_q rfl rfl rfl (ql tok rfl)) ?_)), ?_⟩) | (refine prn_o1 rfl (st_buildSlice tok rfl rfl rfl rfl rfl rfl rfl) (by decide +kernel) rfl rfl rfl ?_; rintro _ _ _ ⟨_, rfl, rfl, rfl⟩; refine ⟨by (repeat (first | exact trivial | refine And.intro (pend_q rfl rfl rfl (qt_pev tok rfl)) ?_ | refine And.intro (pend_q rfl rfl rfl (ql tok rfl)) ?_)), ?_⟩) | (refine prn_e1 rfl (qt_pev tok rfl) (by decide +kernel) rfl rfl rfl ?_; rintro _ _ _ ⟨rfl, rfl, rfl⟩) | refine prn_q rfl (qt_callF rfl (fun _ => dnum_ok _ _ r.auditor (orgR hom.1))) (by decide +kernel) rfl rfl rfl ?_ | refine prn_q rfl (qt_callF rfl (fun _ => dnum_ok _ _ (r.mem.len : Int) (by omega))) (by decide +kernel) rfl rfl rfl ?_ | refine prn_q rfl (qt_concat rfl rfl c4) (by decide +kernel) rfl rfl rfl ?_ | refine prn_q rfl (qt_concat rfl rfl c5) (by decide +kernel) rfl rfl rfl ?_)
  rename_i M1
  generalize hS2 : S1 ++ nB r.auditor ++ nB (r.mem.len : Int) = S2
  have hS2z : S2.size < 1000 := by rw [← hS2, app_size, app_size]; omega
  refine run_loopN (fun j σ1 M2 L1 => j ≤ r.mem.len ∧ M1 = M2 ∧ L1 = (b1, .cells ⟨rcC r⟩ 27 (0, 0)) :: L ∧ σ1 = [(4, .int .i64 (j : Int)), (3, .string (S2 ++ mbB (r.mem.xs.take j))), (1, .pointer (some ⟨b1, 0, none⟩))]) r.mem.len [(4, .int .i64 ((0 : Nat) : Int)), (3, .string (S2 ++ mbB (r.mem.xs.take 0))), (1, .pointer (some ⟨b1, 0, none⟩))] ?_ ⟨Nat.zero_le _, rfl, rfl, rfl⟩ (fun j _ _ _ h => h.1) ?_
  · exact ⟨rfl, by rw [List.take_zero, mbB, app_bz]; rfl, rfl, trivial⟩
  rintro j _ _ _ ⟨hj, rfl, rfl, rfl⟩ hnext
  repeat (first | with_reducible (first | refine run_seq ?_ | refine run_region ?_ | refine runL_nil ?_ | refine run_skip ?_ | refine run_block ?_ | refine run_inBlock ?_) | refine run_exit rfl ?_ | refine runL_q (qt_pev tok rfl) rfl rfl rfl ?_ | refine runL_g rfl rfl (qt_pev tok rfl) rfl rfl rfl rfl rfl ?_ | refine runL_q (ql tok rfl) rfl rfl rfl ?_ | refine runL_g rfl rfl (ql tok rfl) rfl rfl rfl rfl rfl ?_ | (refine runL_op0 (sst tok rfl rfl rfl rfl rfl) ?_; rintro _ _ _ ⟨rfl, rfl, rfl⟩) | (refine runL_op (st_box rfl) rfl rfl rfl ?_; rintro _ _ _ ⟨_, rfl, rfl, rfl⟩) | (refine runL_op (st_alloc tok rfl) rfl rfl rfl ?_; rintro _ _ _ ⟨_, rfl, rfl, rfl⟩) | (refine runL_op (st_buildSlice tok rfl rfl rfl rfl rfl rfl rfl) rfl rfl rfl ?_; rintro _ _ _ ⟨_, rfl, rfl, rfl⟩))
  refine run_cond rfl (fun h => ?_) (fun h => ?_)
  · have hlt : j < r.mem.len := by simpa using h
    obtain ⟨b, off, m, hma, hmj, hc⟩ := SMb.at_ hr.mem.1 hlt
    have hv : r.mem.v = .slice (some ⟨b, off, none⟩) r.mem.len r.mem.cap := by rw [← hma]; rfl
    obtain ⟨hml1, hml2⟩ := hml m (List.mem_of_getElem? hmj)
    have hz1 := textB_sz hml2
    have hz2 := nB_size (n := m.org) (by omega)
    have hz4 := mbB_sz (l := r.mem.xs.take j) fun t ht => hml t (List.mem_of_mem_take ht)
    have hz5 : (r.mem.xs.take j).length ≤ 1000000 := by rw [List.length_take]; omega
    have hz6 : (r.mem.xs.take j).length * 1099511627800 ≤ 1000000 * 1099511627800 := Nat.mul_le_mul_right _ hz5
    have c6 : (S2 ++ mbB (r.mem.xs.take j)).size + (nB m.org).size < 4611686018427387904 := by rw [app_size]; omega
    have c7 : (S2 ++ mbB (r.mem.xs.take j) ++ nB m.org).size + (textB m.digest).size < 4611686018427387904 := by rw [app_size, app_size]; omega
    repeat (first | with_reducible (first | refine run_seq ?_ | refine run_region ?_ | refine runL_nil ?_ | refine run_skip ?_ | refine run_block ?_ | refine run_inBlock ?_) | refine run_exit rfl ?_ | refine runL_q (qt_pev tok rfl) rfl rfl rfl ?_ | refine runL_g rfl rfl (qt_pev tok rfl) rfl rfl rfl rfl rfl ?_ | refine runL_q (ql tok rfl) rfl rfl rfl ?_ | refine runL_g rfl rfl (ql tok rfl) rfl rfl rfl rfl rfl ?_ | (refine runL_op0 (sst tok rfl rfl rfl rfl rfl) ?_; rintro _ _ _ ⟨rfl, rfl, rfl⟩) | (refine runL_op (st_box rfl) rfl rfl rfl ?_; rintro _ _ _ ⟨_, rfl, rfl, rfl⟩) | (refine runL_op (st_alloc tok rfl) rfl rfl rfl ?_; rintro _ _ _ ⟨_, rfl, rfl, rfl⟩) | (refine runL_op (st_buildSlice tok rfl rfl rfl rfl rfl rfl rfl) rfl rfl rfl ?_; rintro _ _ _ ⟨_, rfl, rfl, rfl⟩) | refine prn_start mixed ?_ | refine prn_end (by decide +kernel) ?_ | refine prn_q rfl (qt_pev tok rfl) (by decide +kernel) rfl rfl rfl ?_ | refine prn_g rfl rfl rfl (qt_pev tok rfl) (by decide +kernel) rfl rfl rfl rfl rfl ?_ | refine prn_q rfl (ql tok rfl) (by decide +kernel) rfl rfl rfl ?_ | refine prn_g rfl rfl rfl (ql tok rfl) (by decide +kernel) rfl rfl rfl rfl rfl ?_ | (refine prn_e0 rfl (sst tok rfl rfl rfl rfl rfl) (by decide +kernel) ?_; rintro _ _ _ ⟨rfl, rfl, rfl⟩) | (refine prn_e1 rfl (st_box rfl) (by decide +kernel) rfl rfl rfl ?_; rintro _ _ _ ⟨_, rfl, rfl, rfl⟩) | (refine prn_e1 rfl (st_alloc tok rfl) (by decide +kernel) rfl rfl rfl ?_; rintro _ _ _ ⟨_, rfl, rfl, rfl⟩) | (refine prn_e1 rfl (st_buildSlice tok rfl rfl rfl rfl rfl rfl rfl) (by decide +kernel) rfl rfl rfl ?_; rintro _ _ _ ⟨_, rfl, rfl, rfl⟩) | (refine prn_o0 rfl (sst tok rfl rfl rfl rfl rfl) (by decide +kernel) ?_; rintro _ _ _ ⟨rfl, rfl, rfl⟩; refine ⟨by (repeat (first | exact trivial | refine And.intro (pend_q rfl rfl rfl (qt_pev tok rfl)) ?_ | refine And.intro (pend_q rfl rfl rfl (ql tok rfl)) ?_)), ?_⟩) | (refine prn_o1 rfl (st_box rfl) (by decide +kernel) rfl rfl rfl ?_; rintro _ _ _ ⟨_, rfl, rfl, rfl⟩; refine ⟨by (repeat (first | exact trivial | refine And.intro (pend_q rfl rfl rfl (qt_pev tok rfl)) ?_ | refine And.intro (pend_q rfl rfl rfl (ql tok rfl)) ?_)), ?_⟩) | (refine prn_o1 rfl (st_alloc tok rfl) (by decide +kernel) rfl rfl rfl ?_; rintro _ _ _ ⟨_, rfl, rfl, rfl⟩; refine ⟨by (repeat (first | exact trivial | refine And.intro (pend_q rfl rfl rfl (qt_pev tok rfl)) ?_ | refine And.intro (pend_q rfl rfl rfl (ql tok rfl)) ?_)), ?_⟩) | (refine prn_o1 rfl (st_buildSlice tok rfl rfl rfl rfl rfl rfl rfl) (by decide +kernel) rfl rfl rfl ?_; rintro _ _ _ ⟨_, rfl, rfl, rfl⟩; refine ⟨by (repeat (first | exact trivial | refine And.intro (pend_q rfl rfl rfl (qt_pev tok rfl)) ?_ | refine And.intro (pend_q rfl rfl rfl (ql tok rfl)) ?_)), ?_⟩) | (refine prn_e1 rfl (qt_pev tok rfl) (by decide +kernel) rfl rfl rfl ?_; rintro _ _ _ ⟨rfl, rfl, rfl⟩))
    refine pr_as 61 (.slice (some ⟨b, off, none⟩) r.mem.len r.mem.cap) rfl hv ?_
    repeat (first | with_reducible (first | refine run_seq ?_ | refine run_region ?_ | refine runL_nil ?_ | refine run_skip ?_ | refine run_block ?_ | refine run_inBlock ?_) | refine run_exit rfl ?_ | refine runL_q (qt_pev tok rfl) rfl rfl rfl ?_ | refine runL_g rfl rfl (qt_pev tok rfl) rfl rfl rfl rfl rfl ?_ | refine runL_q (ql tok rfl) rfl rfl rfl ?_ | refine runL_g rfl rfl (ql tok rfl) rfl rfl rfl rfl rfl ?_ | (refine runL_op0 (sst tok rfl rfl rfl rfl rfl) ?_; rintro _ _ _ ⟨rfl, rfl, rfl⟩) | (refine runL_op (st_box rfl) rfl rfl rfl ?_; rintro _ _ _ ⟨_, rfl, rfl, rfl⟩) | (refine runL_op (st_alloc tok rfl) rfl rfl rfl ?_; rintro _ _ _ ⟨_, rfl, rfl, rfl⟩) | (refine runL_op (st_buildSlice tok rfl rfl rfl rfl rfl rfl rfl) rfl rfl rfl ?_; rintro _ _ _ ⟨_, rfl, rfl, rfl⟩) | refine prn_start mixed ?_ | refine prn_end (by decide +kernel) ?_ | refine prn_q rfl (qt_pev tok rfl) (by decide +kernel) rfl rfl rfl ?_ | refine prn_g rfl rfl rfl (qt_pev tok rfl) (by decide +kernel) rfl rfl rfl rfl rfl ?_ | refine prn_q rfl (ql tok rfl) (by decide +kernel) rfl rfl rfl ?_ | refine prn_g rfl rfl rfl (ql tok rfl) (by decide +kernel) rfl rfl rfl rfl rfl ?_ | (refine prn_e0 rfl (sst tok rfl rfl rfl rfl rfl) (by decide +kernel) ?_; rintro _ _ _ ⟨rfl, rfl, rfl⟩) | (refine prn_e1 rfl (st_box rfl) (by decide +kernel) rfl rfl rfl ?_; rintro _ _ _ ⟨_, rfl, rfl, rfl⟩) | (refine prn_e1 rfl (st_alloc tok rfl) (by decide +kernel) rfl rfl rfl ?_; rintro _ _ _ ⟨_, rfl, rfl, rfl⟩) | (refine prn_e1 rfl (st_buildSlice tok rfl rfl rfl rfl rfl rfl rfl) (by decide +kernel) rfl rfl rfl ?_; rintro _ _ _ ⟨_, rfl, rfl, rfl⟩) | (refine prn_o0 rfl (sst tok rfl rfl rfl rfl rfl) (by decide +kernel) ?_; rintro _ _ _ ⟨rfl, rfl, rfl⟩; refine ⟨by (repeat (first | exact trivial | refine And.intro (pend_q rfl rfl rfl (qt_pev tok rfl)) ?_ | refine And.intro (pend_q rfl rfl rfl (ql tok rfl)) ?_)), ?_⟩) | (refine prn_o1 rfl (st_box rfl) (by decide +kernel) rfl rfl rfl ?_; rintro _ _ _ ⟨_, rfl, rfl, rfl⟩; refine ⟨by (repeat (first | exact trivial | refine And.intro (pend_q rfl rfl rfl (qt_pev tok rfl)) ?_ | refine And.intro (pend_q rfl rfl rfl (ql tok rfl)) ?_)), ?_⟩) | (refine prn_o1 rfl (st_alloc tok rfl) (by decide +kernel) rfl rfl rfl ?_; rintro _ _ _ ⟨_, rfl, rfl, rfl⟩; refine ⟨by (repeat (first | exact trivial | refine And.intro (pend_q rfl rfl rfl (qt_pev tok rfl)) ?_ | refine And.intro (pend_q rfl rfl rfl (ql tok rfl)) ?_)), ?_⟩) | (refine prn_o1 rfl (st_buildSlice tok rfl rfl rfl rfl rfl rfl rfl) (by decide +kernel) rfl rfl rfl ?_; rintro _ _ _ ⟨_, rfl, rfl, rfl⟩; refine ⟨by (repeat (first | exact trivial | refine And.intro (pend_q rfl rfl rfl (qt_pev tok rfl)) ?_ | refine And.intro (pend_q rfl rfl rfl (ql tok rfl)) ?_)), ?_⟩) | (refine prn_e1 rfl (qt_pev tok rfl) (by decide +kernel) rfl rfl rfl ?_; rintro _ _ _ ⟨rfl, rfl, rfl⟩) | refine prn_q rfl (qt_indexN tok rfl rfl rfl rfl (fun _ => by omega)) (by decide +kernel) rfl rfl rfl ?_ | refine prn_g rfl rfl rfl (qt_indexN tok rfl rfl rfl rfl (fun _ => by omega)) (by decide +kernel) rfl rfl rfl rfl rfl ?_ | refine prn_q rfl (qt_ldM tok rfl hc rfl) (by decide +kernel) rfl rfl rfl ?_ | refine prn_g rfl rfl rfl (qt_ldM tok rfl hc rfl) (by decide +kernel) rfl rfl rfl rfl rfl ?_ | refine prn_q rfl (qt_ldM0 tok rfl hc rfl) (by decide +kernel) rfl rfl rfl ?_ | refine prn_g rfl rfl rfl (qt_ldM0 tok rfl hc rfl) (by decide +kernel) rfl rfl rfl rfl rfl ?_ | refine prn_q rfl (qt_callF rfl (fun _ => dnum_ok _ _ m.org (by omega))) (by decide +kernel) rfl rfl rfl ?_ | refine prn_q rfl (qt_concat rfl rfl c6) (by decide +kernel) rfl rfl rfl ?_)
    refine pr_as 69 (.slice (some ⟨b, off, none⟩) r.mem.len r.mem.cap) rfl hv ?_
    repeat (first | with_reducible (first | refine run_seq ?_ | refine run_region ?_ | refine runL_nil ?_ | refine run_skip ?_ | refine run_block ?_ | refine run_inBlock ?_) | refine run_exit rfl ?_ | refine runL_q (qt_pev tok rfl) rfl rfl rfl ?_ | refine runL_g rfl rfl (qt_pev tok rfl) rfl rfl rfl rfl rfl ?_ | refine runL_q (ql tok rfl) rfl rfl rfl ?_ | refine runL_g rfl rfl (ql tok rfl) rfl rfl rfl rfl rfl ?_ | (refine runL_op0 (sst tok rfl rfl rfl rfl rfl) ?_; rintro _ _ _ ⟨rfl, rfl, rfl⟩) | (refine runL_op (st_box rfl) rfl rfl rfl ?_; rintro _ _ _ ⟨_, rfl, rfl, rfl⟩) | (refine runL_op (st_alloc tok rfl) rfl rfl rfl ?_; rintro _ _ _ ⟨_, rfl, rfl, rfl⟩) | (refine runL_op (st_buildSlice tok rfl rfl rfl rfl rfl rfl rfl) rfl rfl rfl ?_; rintro _ _ _ ⟨_, rfl, rfl, rfl⟩) | refine prn_start mixed ?_ | refine prn_end (by decide +kernel) ?_ | refine prn_q rfl (qt_pev tok rfl) (by decide +kernel) rfl rfl rfl ?_ | refine prn_g rfl rfl rfl (qt_pev tok rfl) (by decide +kernel) rfl rfl rfl rfl rfl ?_ | refine prn_q rfl (ql tok rfl) (by decide +kernel) rfl rfl rfl ?_ | refine prn_g rfl rfl rfl (ql tok rfl) (by decide +kernel) rfl rfl rfl rfl rfl ?_ | (refine prn_e0 rfl (sst tok rfl rfl rfl rfl rfl) (by decide +kernel) ?_; rintro _ _ _ ⟨rfl, rfl, rfl⟩) | (refine prn_e1 rfl (st_box rfl) (by decide +kernel) rfl rfl rfl ?_; rintro _ _ _ ⟨_, rfl, rfl, rfl⟩) | (refine prn_e1 rfl (st_alloc tok rfl) (by decide +kernel) rfl rfl rfl ?_; rintro _ _ _ ⟨_, rfl, rfl, rfl⟩) | (refine prn_e1 rfl (st_buildSlice tok rfl rfl rfl rfl rfl rfl rfl) (by decide +kernel) rfl rfl rfl ?_; rintro _ _ _ ⟨_, rfl, rfl, rfl⟩) | (refine prn_o0 rfl (sst tok rfl rfl rfl rfl rfl) (by decide +kernel) ?_; rintro _ _ _ ⟨rfl, rfl, rfl⟩; refine ⟨by (repeat (first | exact trivial | refine And.intro (pend_q rfl rfl rfl (qt_pev tok rfl)) ?_ | refine And.intro (pend_q rfl rfl rfl (ql tok rfl)) ?_)), ?_⟩) | (refine prn_o1 rfl (st_box rfl) (by decide +kernel) rfl rfl rfl ?_; rintro _ _ _ ⟨_, rfl, rfl, rfl⟩; refine ⟨by (repeat (first | exact trivial | refine And.intro (pend_q rfl rfl rfl (qt_pev tok rfl)) ?_ | refine And.intro (pend_q rfl rfl rfl (ql tok rfl)) ?_)), ?_⟩) | (refine prn_o1 rfl (st_alloc tok rfl) (by decide +kernel) rfl rfl rfl ?_; rintro _ _ _ ⟨_, rfl, rfl, rfl⟩; refine ⟨by (repeat (first | exact trivial | refine And.intro (pend_q rfl rfl rfl (qt_pev tok rfl)) ?_ | refine And.intro (pend_q rfl rfl rfl (ql tok rfl)) ?_)), ?_⟩) | (refine prn_o1 rfl (st_buildSlice tok rfl rfl rfl rfl rfl rfl rfl) (by decide +kernel) rfl rfl rfl ?_; rintro _ _ _ ⟨_, rfl, rfl, rfl⟩; refine ⟨by (repeat (first | exact trivial | refine And.intro (pend_q rfl rfl rfl (qt_pev tok rfl)) ?_ | refine And.intro (pend_q rfl rfl rfl (ql tok rfl)) ?_)), ?_⟩) | (refine prn_e1 rfl (qt_pev tok rfl) (by decide +kernel) rfl rfl rfl ?_; rintro _ _ _ ⟨rfl, rfl, rfl⟩) | refine prn_q rfl (qt_indexN tok rfl rfl rfl rfl (fun _ => by omega)) (by decide +kernel) rfl rfl rfl ?_ | refine prn_g rfl rfl rfl (qt_indexN tok rfl rfl rfl rfl (fun _ => by omega)) (by decide +kernel) rfl rfl rfl rfl rfl ?_ | refine prn_q rfl (qt_ldM tok rfl hc rfl) (by decide +kernel) rfl rfl rfl ?_ | refine prn_g rfl rfl rfl (qt_ldM tok rfl hc rfl) (by decide +kernel) rfl rfl rfl rfl rfl ?_ | refine prn_q rfl (qt_ldM0 tok rfl hc rfl) (by decide +kernel) rfl rfl rfl ?_ | refine prn_g rfl rfl rfl (qt_ldM0 tok rfl hc rfl) (by decide +kernel) rfl rfl rfl rfl rfl ?_ | refine prn_q rfl (qt_callF rfl (fun _ => dtext_ok _ _ m.digest (by omega))) (by decide +kernel) rfl rfl rfl ?_ | refine prn_q rfl (qt_concat rfl rfl c7) (by decide +kernel) rfl rfl rfl ?_)
    refine run_sub' (hnext _ _ _ ⟨hlt, rfl, rfl, rfl⟩) ⟨lk_succ rfl (by omega), ?_, rfl, trivial⟩
    rw [take_snoc hmj, mbB_snoc]
    simp only [← app_assoc]
    rfl
  · have hge : j = r.mem.len := by simp at h; omega
    rw [hge, List.take_of_length_le (by omega)]
    have hz4 := mbB_sz hml
    have hz6 : r.mem.xs.length * 1099511627800 ≤ 1000000 * 1099511627800 := Nat.mul_le_mul_right _ (by omega)
    have hzB : (S2 ++ mbB r.mem.xs).size ≤ 1000 + 1000000 * 1099511627800 := by rw [app_size]; omega
    have hbz := textB_sz hl.body
    have hbl := hl.body
    have hz7 := tsB_sz hl.tag
    have ht6 := hr.tags.2
    have htl := hr.tags.len
    have hz8 : r.tags.xs.length * 1099511627786 ≤ 1000000 * 1099511627786 := Nat.mul_le_mul_right _ (by omega)
    have c8 : (S2 ++ mbB r.mem.xs).size + (textB r.body).size < 4611686018427387904 := by omega
    have c9 : (S2 ++ mbB r.mem.xs).size + (tsB r.tags.xs).size < 4611686018427387904 := by omega
    have hall : S2 ++ mbB r.mem.xs = bytesI [r.kind] ++ (txB r.txn ++ (yB r.yes ++ (nB r.auditor ++ msB r.mem.xs))) := by
      rw [← hS2, ← hS, msB, hmlen]
      simp only [app_assoc]
    repeat (first | with_reducible (first | refine run_seq ?_ | refine run_region ?_ | refine runL_nil ?_ | refine run_skip ?_ | refine run_block ?_ | refine run_inBlock ?_) | refine run_exit rfl ?_ | refine runL_q (qt_pev tok rfl) rfl rfl rfl ?_ | refine runL_g rfl rfl (qt_pev tok rfl) rfl rfl rfl rfl rfl ?_ | refine runL_q (ql tok rfl) rfl rfl rfl ?_ | refine runL_g rfl rfl (ql tok rfl) rfl rfl rfl rfl rfl ?_ | (refine runL_op0 (sst tok rfl rfl rfl rfl rfl) ?_; rintro _ _ _ ⟨rfl, rfl, rfl⟩) | (refine runL_op (st_box rfl) rfl rfl rfl ?_; rintro _ _ _ ⟨_, rfl, rfl, rfl⟩) | (refine runL_op (st_alloc tok rfl) rfl rfl rfl ?_; rintro _ _ _ ⟨_, rfl, rfl, rfl⟩) | (refine runL_op (st_buildSlice tok rfl rfl rfl rfl rfl rfl rfl) rfl rfl rfl ?_; rintro _ _ _ ⟨_, rfl, rfl, rfl⟩))
    refine run_cond rfl (fun h => ?_) (fun h => ?_)
    · have k2 : r.kind = 2 := by simpa using h
      repeat (first | with_reducible (first | refine run_seq ?_ | refine run_region ?_ | refine runL_nil ?_ | refine run_skip ?_ | refine run_block ?_ | refine run_inBlock ?_) | refine run_exit rfl ?_ | refine runL_q (qt_pev tok rfl) rfl rfl rfl ?_ | refine runL_g rfl rfl (qt_pev tok rfl) rfl rfl rfl rfl rfl ?_ | refine runL_q (ql tok rfl) rfl rfl rfl ?_ | refine runL_g rfl rfl (ql tok rfl) rfl rfl rfl rfl rfl ?_ | (refine runL_op0 (sst tok rfl rfl rfl rfl rfl) ?_; rintro _ _ _ ⟨rfl, rfl, rfl⟩) | (refine runL_op (st_box rfl) rfl rfl rfl ?_; rintro _ _ _ ⟨_, rfl, rfl, rfl⟩) | (refine runL_op (st_alloc tok rfl) rfl rfl rfl ?_; rintro _ _ _ ⟨_, rfl, rfl, rfl⟩) | (refine runL_op (st_buildSlice tok rfl rfl rfl rfl rfl rfl rfl) rfl rfl rfl ?_; rintro _ _ _ ⟨_, rfl, rfl, rfl⟩) | refine runL_q (qt_callF rfl (fun _ => dtext_ok _ _ r.body (by omega))) rfl rfl rfl ?_ | refine runL_q (qt_concat rfl rfl c8) rfl rfl rfl ?_)
      refine run_ret hC (rs := [.tmp 2]) rfl (resT rfl resN) (fun _ h => h.drop) ⟨?_, rfl, rfl⟩
      rw [hall, recB, bodyB, if_neg (by rw [e1, k2]; decide), if_pos (e1.trans k2)]
      simp only [app_assoc]
      rfl
    · have k2 : ¬ r.kind = 2 := by simpa using h
      obtain ⟨k3, hy⟩ := hsh.resolve_left k2
      repeat (first | with_reducible (first | refine run_seq ?_ | refine run_region ?_ | refine runL_nil ?_ | refine run_skip ?_ | refine run_block ?_ | refine run_inBlock ?_) | refine run_exit rfl ?_ | refine runL_q (qt_pev tok rfl) rfl rfl rfl ?_ | refine runL_g rfl rfl (qt_pev tok rfl) rfl rfl rfl rfl rfl ?_ | refine runL_q (ql tok rfl) rfl rfl rfl ?_ | refine runL_g rfl rfl (ql tok rfl) rfl rfl rfl rfl rfl ?_ | (refine runL_op0 (sst tok rfl rfl rfl rfl rfl) ?_; rintro _ _ _ ⟨rfl, rfl, rfl⟩) | (refine runL_op (st_box rfl) rfl rfl rfl ?_; rintro _ _ _ ⟨_, rfl, rfl, rfl⟩) | (refine runL_op (st_alloc tok rfl) rfl rfl rfl ?_; rintro _ _ _ ⟨_, rfl, rfl, rfl⟩) | (refine runL_op (st_buildSlice tok rfl rfl rfl rfl rfl rfl rfl) rfl rfl rfl ?_; rintro _ _ _ ⟨_, rfl, rfl, rfl⟩) | refine runL_q (qt_callF rfl (fun _ => drow_ok _ _ r.tags hr.tags hl.tag)) rfl rfl rfl ?_ | refine runL_q (qt_concat rfl rfl c9) rfl rfl rfl ?_)
      refine run_ret hC (rs := [.tmp 2]) rfl (resT rfl resN) (fun _ h => h.drop) ⟨?_, rfl, rfl⟩
      rw [hall, recB, bodyB, if_neg (by rw [e1, k3]; decide), if_neg (by rw [e1, k3]; decide), if_pos (e1.trans k3), if_pos (show r.re.yes = true from hy)]
      simp only [app_assoc]
      rfl
set_option maxHeartbeats 4000000 in
theorem dencode_ok (M : Mem) (L : HL) (r : Rc) (hr : RcOk M r) (hl : RcLim r) : TrQ Try.prog 11 [.agg ⟨rcC r⟩] M L (.tuple ⟨[.string (encE r).1, .int .i64 (encE r).2]⟩) := by
  have hre := recE_re hr
  have h02 : recE r = 0 ∨ recE r = 2 := by
    unfold recE
    repeat' split
    all_goals simp
  refine Tr.intro 14 Try.func11 rfl rfl Try.call11 rfl ?_
  intro C hC hro
  repeat (first | with_reducible (first | refine run_seq ?_ | refine run_region ?_ | refine runL_nil ?_ | refine run_skip ?_ | refine run_block ?_ | refine run_inBlock ?_) | refine run_exit rfl ?_ | refine runL_q (qt_pev tok rfl) rfl rfl rfl ?_ | refine runL_g rfl rfl (qt_pev tok rfl) rfl rfl rfl rfl rfl ?_ | refine runL_q (ql tok rfl) rfl rfl rfl ?_ | refine runL_g rfl rfl (ql tok rfl) rfl rfl rfl rfl rfl ?_ | (refine runL_op0 (sst tok rfl rfl rfl rfl rfl) ?_; rintro _ _ _ ⟨rfl, rfl, rfl⟩) | (refine runL_op (st_box rfl) rfl rfl rfl ?_; rintro _ _ _ ⟨_, rfl, rfl, rfl⟩) | (refine runL_op (st_alloc tok rfl) rfl rfl rfl ?_; rintro _ _ _ ⟨_, rfl, rfl, rfl⟩) | (refine runL_op (st_buildSlice tok rfl rfl rfl rfl rfl rfl rfl) rfl rfl rfl ?_; rintro _ _ _ ⟨_, rfl, rfl, rfl⟩) | refine runL_q (qt_callF rfl (fun _ => dmay_ok _ _ r hr)) rfl rfl rfl ?_)
  refine run_cond rfl (fun h => ?_) (fun h => ?_)
  · have h0 : recE r ≠ 0 := by rw [mayRD_re hr] at h; simpa using h
    have h2 : recE r = 2 := h02.resolve_left h0
    repeat (first | with_reducible (first | refine run_seq ?_ | refine run_region ?_ | refine runL_nil ?_ | refine run_skip ?_ | refine run_block ?_ | refine run_inBlock ?_) | refine run_exit rfl ?_ | refine runL_q (qt_pev tok rfl) rfl rfl rfl ?_ | refine runL_g rfl rfl (qt_pev tok rfl) rfl rfl rfl rfl rfl ?_ | refine runL_q (ql tok rfl) rfl rfl rfl ?_ | refine runL_g rfl rfl (ql tok rfl) rfl rfl rfl rfl rfl ?_ | (refine runL_op0 (sst tok rfl rfl rfl rfl rfl) ?_; rintro _ _ _ ⟨rfl, rfl, rfl⟩) | (refine runL_op (st_box rfl) rfl rfl rfl ?_; rintro _ _ _ ⟨_, rfl, rfl, rfl⟩) | (refine runL_op (st_alloc tok rfl) rfl rfl rfl ?_; rintro _ _ _ ⟨_, rfl, rfl, rfl⟩) | (refine runL_op (st_buildSlice tok rfl rfl rfl rfl rfl rfl rfl) rfl rfl rfl ?_; rintro _ _ _ ⟨_, rfl, rfl, rfl⟩))
    exact run_ret hC (rs := [.tmp 2, .tmp 3]) rfl (resT rfl (resT rfl resN)) (fun _ h => h.drop) ⟨by rw [encE, if_pos h0, h2]; rfl, rfl, rfl⟩
  have h0 : recE r = 0 := by rw [mayRD_re hr] at h; simpa using h
  have hp := hre.1 h0
  repeat (first | with_reducible (first | refine run_seq ?_ | refine run_region ?_ | refine runL_nil ?_ | refine run_skip ?_ | refine run_block ?_ | refine run_inBlock ?_) | refine run_exit rfl ?_ | refine runL_q (qt_pev tok rfl) rfl rfl rfl ?_ | refine runL_g rfl rfl (qt_pev tok rfl) rfl rfl rfl rfl rfl ?_ | refine runL_q (ql tok rfl) rfl rfl rfl ?_ | refine runL_g rfl rfl (ql tok rfl) rfl rfl rfl rfl rfl ?_ | (refine runL_op0 (sst tok rfl rfl rfl rfl rfl) ?_; rintro _ _ _ ⟨rfl, rfl, rfl⟩) | (refine runL_op (st_box rfl) rfl rfl rfl ?_; rintro _ _ _ ⟨_, rfl, rfl, rfl⟩) | (refine runL_op (st_alloc tok rfl) rfl rfl rfl ?_; rintro _ _ _ ⟨_, rfl, rfl, rfl⟩) | (refine runL_op (st_buildSlice tok rfl rfl rfl rfl rfl rfl rfl) rfl rfl rfl ?_; rintro _ _ _ ⟨_, rfl, rfl, rfl⟩) | refine runL_q (qt_callF rfl (fun _ => dbytes_ok _ _ r hr hl hp)) rfl rfl rfl ?_)
  refine run_cond rfl (fun h => ?_) (fun h => ?_)
  · have hgt : 8192 < (recB r.re).size := by simp at h; omega
    repeat (first | with_reducible (first | refine run_seq ?_ | refine run_region ?_ | refine runL_nil ?_ | refine run_skip ?_ | refine run_block ?_ | refine run_inBlock ?_) | refine run_exit rfl ?_ | refine runL_q (qt_pev tok rfl) rfl rfl rfl ?_ | refine runL_g rfl rfl (qt_pev tok rfl) rfl rfl rfl rfl rfl ?_ | refine runL_q (ql tok rfl) rfl rfl rfl ?_ | refine runL_g rfl rfl (ql tok rfl) rfl rfl rfl rfl rfl ?_ | (refine runL_op0 (sst tok rfl rfl rfl rfl rfl) ?_; rintro _ _ _ ⟨rfl, rfl, rfl⟩) | (refine runL_op (st_box rfl) rfl rfl rfl ?_; rintro _ _ _ ⟨_, rfl, rfl, rfl⟩) | (refine runL_op (st_alloc tok rfl) rfl rfl rfl ?_; rintro _ _ _ ⟨_, rfl, rfl, rfl⟩) | (refine runL_op (st_buildSlice tok rfl rfl rfl rfl rfl rfl rfl) rfl rfl rfl ?_; rintro _ _ _ ⟨_, rfl, rfl, rfl⟩))
    exact run_ret hC (rs := [.tmp 2, .tmp 3]) rfl (resT rfl (resT rfl resN)) (fun _ h => h.drop) ⟨by rw [encE, if_neg (by simp [h0]), if_pos hgt]; rfl, rfl, rfl⟩
  · have hgt : ¬ 8192 < (recB r.re).size := by simp at h; omega
    repeat (first | with_reducible (first | refine run_seq ?_ | refine run_region ?_ | refine runL_nil ?_ | refine run_skip ?_ | refine run_block ?_ | refine run_inBlock ?_) | refine run_exit rfl ?_ | refine runL_q (qt_pev tok rfl) rfl rfl rfl ?_ | refine runL_g rfl rfl (qt_pev tok rfl) rfl rfl rfl rfl rfl ?_ | refine runL_q (ql tok rfl) rfl rfl rfl ?_ | refine runL_g rfl rfl (ql tok rfl) rfl rfl rfl rfl rfl ?_ | (refine runL_op0 (sst tok rfl rfl rfl rfl rfl) ?_; rintro _ _ _ ⟨rfl, rfl, rfl⟩) | (refine runL_op (st_box rfl) rfl rfl rfl ?_; rintro _ _ _ ⟨_, rfl, rfl, rfl⟩) | (refine runL_op (st_alloc tok rfl) rfl rfl rfl ?_; rintro _ _ _ ⟨_, rfl, rfl, rfl⟩) | (refine runL_op (st_buildSlice tok rfl rfl rfl rfl rfl rfl rfl) rfl rfl rfl ?_; rintro _ _ _ ⟨_, rfl, rfl, rfl⟩))
    exact run_ret hC (rs := [.tmp 2, .tmp 3]) rfl (resT rfl (resT rfl resN)) (fun _ h => h.drop) ⟨by rw [encE, if_neg (by simp [h0]), if_neg hgt]; rfl, rfl, rfl⟩
end Go.Proofs.Ytpjklbkfhgfmnaa
namespace Go.Proofs.Ytpjklbkfhgfmnaa
open Go.Chi

/-! ### the document's cutter: what it makes of a record's bytes -/
abbrev Cut := ByteArray × Bool
def cN (most : Nat) (c : Cut) : Int × Cut := if (c.2 = true ∧ (numR c.1).2.2 = 0) ∧ (numR c.1).1 ≤ (most : Int) then ((numR c.1).1, (c.1.extract (numR c.1).2.1.toNat c.1.size, true)) else (0, (c.1, false))
def cT (c : Cut) : ByteArray × Cut := if c.2 = true ∧ (textR c.1 8192).2.2 = 0 then ((textR c.1 8192).1, (c.1.extract (textR c.1 8192).2.1.toNat c.1.size, true)) else (bz, (c.1, false))
def cMb : Nat → Cut → List Mb × Cut
  | 0, c => ([], c)
  | n + 1, c => (⟨(cN 8 c).1, (cT (cN 8 c).2).1⟩ :: (cMb n (cT (cN 8 c).2).2).1, (cMb n (cT (cN 8 c).2).2).2)
def cTs : Nat → Cut → List ByteArray × Cut
  | 0, c => ([], c)
  | n + 1, c => ((cT c).1 :: (cTs n (cT c).2).1, (cTs n (cT c).2).2)
def cTx (c : Cut) : Tx × Cut := (⟨(cN 8 c).1, (cN 255 (cN 8 c).2).1, (cN 65535 (cN 255 (cN 8 c).2).2).1⟩, (cN 65535 (cN 255 (cN 8 c).2).2).2)
/-- epoch, or transaction and yes -/
def c1 (k : Int) (c : Cut) : (Int × Tx × Bool) × Cut := if k = 1 then (((cN 255 c).1, ⟨0, 0, 0⟩, false), (cN 255 c).2) else ((0, (cTx c).1, (cN 1 (cTx c).2).1 == 1), (cN 1 (cTx c).2).2)
/-- auditor and members -/
def c2 (k : Int) (y : Bool) (c : Cut) : (Int × List Mb) × Cut := if (k = 2 ∨ (k = 3 ∧ y = true)) then (((cN 8 c).1, (cMb (cN 6 (cN 8 c).2).1.toNat (cN 6 (cN 8 c).2).2).1), (cMb (cN 6 (cN 8 c).2).1.toNat (cN 6 (cN 8 c).2).2).2) else ((0, []), c)
def c3 (k : Int) (c : Cut) : ByteArray × Cut := if k = 2 then cT c else (bz, c)
def c4 (k : Int) (n : Nat) (c : Cut) : List ByteArray × Cut := if k = 3 then cTs n c else ([], c)
def cRec (k : Int) (c : Cut) : Re × Cut :=
  (⟨k, (c1 k c).1.1, (c1 k c).1.2.1, (c1 k c).1.2.2, (c2 k (c1 k c).1.2.2 (c1 k c).2).1.1, (c2 k (c1 k c).1.2.2 (c1 k c).2).1.2,
    (c4 k (c2 k (c1 k c).1.2.2 (c1 k c).2).1.2.length (c3 k (c2 k (c1 k c).1.2.2 (c1 k c).2).2).2).1, (c3 k (c2 k (c1 k c).1.2.2 (c1 k c).2).2).1⟩,
   (c4 k (c2 k (c1 k c).1.2.2 (c1 k c).2).1.2.length (c3 k (c2 k (c1 k c).1.2.2 (c1 k c).2).2).2).2)
theorem cN_ok {most : Nat} {v : Int} (h0 : 0 ≤ v) (h : v ≤ most) (hv : v < 4611686018427387904) (x : ByteArray) : cN most (nB v ++ x, true) = (v, (x, true)) := by
  have hn := num_read (v := v.toNat) (by omega) x
  unfold cN nB
  rw [hn, if_pos (show ((true : Bool) = true ∧ (0 : Int) = 0) ∧ ((v.toNat : Nat) : Int) ≤ (most : Int) from ⟨⟨rfl, rfl⟩, by omega⟩)]
  show (((v.toNat : Nat) : Int), ((numB v.toNat ++ x).extract (((numB v.toNat).size : Int)).toNat (numB v.toNat ++ x).size, true)) = _
  rw [Int.toNat_natCast, ext_right, Int.toNat_of_nonneg h0]
theorem cT_ok {t : ByteArray} (h : t.size ≤ 8192) (x : ByteArray) : cT (textB t ++ x, true) = (t, (x, true)) := by
  have hn := text_read h (by omega) x
  unfold cT
  rw [hn, if_pos (show (true : Bool) = true ∧ (0 : Int) = 0 from ⟨rfl, rfl⟩)]
  show (t, ((textB t ++ x).extract (((textB t).size : Int)).toNat (textB t ++ x).size, true)) = _
  rw [Int.toNat_natCast, ext_right]
theorem cMb_ok : ∀ (l : List Mb), (∀ m ∈ l, 0 ≤ m.org ∧ m.org ≤ 7 ∧ m.digest.size ≤ 8192) → ∀ x, cMb l.length (mbB l ++ x, true) = (l, (x, true))
  | [], _, x => by rw [mbB, List.length_nil, cMb]; exact congrArg (fun y => ([], (y, true))) (nil_app x)
  | m :: l, h, x => by
    obtain ⟨h1, h2, h3⟩ := h m List.mem_cons_self
    rw [mbB, List.length_cons, cMb, app_assoc, app_assoc, cN_ok h1 (by omega) (by omega), cT_ok h3, cMb_ok l (fun m hm => h m (List.mem_cons_of_mem _ hm)) x]
theorem cTs_ok : ∀ (l : List ByteArray), (∀ t ∈ l, t.size ≤ 8192) → ∀ x, cTs l.length (tsB l ++ x, true) = (l, (x, true))
  | [], _, x => by rw [tsB, List.length_nil, cTs]; exact congrArg (fun y => ([], (y, true))) (nil_app x)
  | t :: l, h, x => by
    rw [tsB, List.length_cons, cTs, app_assoc, cT_ok (h t List.mem_cons_self), cTs_ok l (fun m hm => h m (List.mem_cons_of_mem _ hm)) x]
theorem cTx_ok {t : Tx} (h : mayTx t = true) (x : ByteArray) : cTx (txB t ++ x, true) = (t, (x, true)) := by
  obtain ⟨h1, h2, h3⟩ := mayTx_r h
  rw [cTx, txB, app_assoc, app_assoc, cN_ok h1.1 (by omega) (by omega), cN_ok h2.1 h2.2 (by omega), cN_ok h3.1 h3.2 (by omega)]
theorem cY_ok (y : Bool) (x : ByteArray) : ((cN 1 (yB y ++ x, true)).1 == 1) = y ∧ (cN 1 (yB y ++ x, true)).2 = (x, true) := by
  cases y
  · rw [yB, if_neg (by simp), cN_ok (by omega) (by decide) (by omega)]; exact ⟨rfl, rfl⟩
  · rw [yB, if_pos rfl, cN_ok (by omega) (by decide) (by omega)]; exact ⟨rfl, rfl⟩
theorem cAM_ok {a : Int} {l : List Mb} (k : Int) (y : Bool) (hk : k = 2 ∨ (k = 3 ∧ y = true)) (ha : orgW a = true) (hl : l.length ≤ 6) (h : ∀ m ∈ l, 0 ≤ m.org ∧ m.org ≤ 7 ∧ m.digest.size ≤ 8192) (x : ByteArray) : c2 k y (nB a ++ (msB l ++ x), true) = ((a, l), (x, true)) := by
  have : 0 ≤ a ∧ a ≤ 7 := by simp [orgW] at ha; omega
  rw [c2, if_pos hk, cN_ok this.1 (by omega) (by omega), msB, app_assoc, cN_ok (by omega) (by omega) (by omega)]
  simp only [Int.toNat_natCast]
  rw [cMb_ok l h]
/-- a record's bytes, cut, are it -/
theorem cRec_ok {r : Re} (h : RecP r) (hs : Short r) : cRec r.kind (bodyB r ++ bz, true) = (r, (bz, true)) := by
  cases h with
  | epoch e h1 h2 =>
    show cRec 1 (nB e ++ bz, true) = _
    have e1 : c1 1 (nB e ++ bz, true) = ((e, ⟨0, 0, 0⟩, false), (bz, true)) := by
      rw [c1, if_pos rfl, cN_ok (by omega) (by omega) (by omega)]
    unfold cRec
    rw [e1]
    rfl
  | vote t y a m b h1 h2 h3 h4 =>
    obtain ⟨m1, m2⟩ := mayMb_r h3
    show cRec 2 ((txB t ++ (yB y ++ (nB a ++ (msB m ++ textB b)))) ++ bz, true) = _
    have hy := cY_ok y (nB a ++ (msB m ++ (textB b ++ bz)))
    have e1 : c1 2 ((txB t ++ (yB y ++ (nB a ++ (msB m ++ textB b)))) ++ bz, true) = ((0, t, y), (nB a ++ (msB m ++ (textB b ++ bz)), true)) := by
      rw [c1, if_neg (by decide), app_assoc, app_assoc, app_assoc, app_assoc, cTx_ok h1, hy.1, hy.2]
    have e2 := cAM_ok 2 y (.inl rfl) h2 m1 (fun u hu => ⟨(m2 u hu).1, (m2 u hu).2, hs.1 u hu⟩) (textB b ++ bz)
    have e3 : c3 2 (textB b ++ bz, true) = (b, (bz, true)) := by rw [c3, if_pos rfl, cT_ok hs.2.2]
    unfold cRec
    rw [e1]
    simp only
    rw [e2]
    simp only
    rw [e3]
    rfl
  | commit t a m g h1 h2 h3 h4 h5 =>
    obtain ⟨m1, m2⟩ := mayMb_r h3
    show cRec 3 ((txB t ++ (yB true ++ (nB a ++ (msB m ++ tsB g)))) ++ bz, true) = _
    have hy := cY_ok true (nB a ++ (msB m ++ (tsB g ++ bz)))
    have e1 : c1 3 ((txB t ++ (yB true ++ (nB a ++ (msB m ++ tsB g)))) ++ bz, true) = ((0, t, true), (nB a ++ (msB m ++ (tsB g ++ bz)), true)) := by
      rw [c1, if_neg (by decide), app_assoc, app_assoc, app_assoc, app_assoc, cTx_ok h1, hy.1, hy.2]
    have e2 := cAM_ok 3 true (.inr ⟨rfl, rfl⟩) h2 m1 (fun u hu => ⟨(m2 u hu).1, (m2 u hu).2, hs.1 u hu⟩) (tsB g ++ bz)
    have e3 : c3 3 (tsB g ++ bz, true) = (bz, (tsB g ++ bz, true)) := by rw [c3, if_neg (by decide)]
    have e4 : c4 3 m.length (tsB g ++ bz, true) = (g, (bz, true)) := by rw [c4, if_pos rfl, ← h4, cTs_ok g hs.2.1]
    unfold cRec
    rw [e1]
    simp only
    rw [e2]
    simp only
    rw [e3]
    simp only
    rw [e4]
  | abort t h1 =>
    show cRec 3 ((txB t ++ (yB false ++ bz)) ++ bz, true) = _
    have hy := cY_ok false (bz ++ bz)
    have e1 : c1 3 ((txB t ++ (yB false ++ bz)) ++ bz, true) = ((0, t, false), (bz ++ bz, true)) := by
      rw [c1, if_neg (by decide), app_assoc, app_assoc, cTx_ok h1, hy.1, hy.2]
    have e2 : ∀ c, c2 3 false c = ((0, []), c) := fun c => by rw [c2, if_neg (by simp)]
    have e3 : ∀ c, c3 3 c = (bz, c) := fun c => by rw [c3, if_neg (by decide)]
    have e4 : ∀ c, c4 3 0 c = ([], c) := fun c => by rw [c4, if_pos rfl]; rfl
    unfold cRec
    rw [e1]
    simp only [e2, e3, e4, List.length_nil]
    exact congrArg (fun y => (_, (y, true))) (nil_app bz)
  | learn t y h1 =>
    show cRec 4 ((txB t ++ yB y) ++ bz, true) = _
    have hy := cY_ok y bz
    have e1 : c1 4 ((txB t ++ yB y) ++ bz, true) = ((0, t, y), (bz, true)) := by
      rw [c1, if_neg (by decide), app_assoc, cTx_ok h1, hy.1, hy.2]
    have e2 : ∀ c, c2 4 y c = ((0, []), c) := fun c => by rw [c2, if_neg (by simp)]
    have e3 : ∀ c, c3 4 c = (bz, c) := fun c => by rw [c3, if_neg (by decide)]
    have e4 : ∀ n c, c4 4 n c = ([], c) := fun n c => by rw [c4, if_neg (by decide)]
    unfold cRec
    rw [e1]
    simp only [e2, e3, e4]
theorem cRec_dec {s : ByteArray} {r : Re} (h : Dec s r) : cRec (byte s 0) (rest1 s, true) = (r, (bz, true)) := by
  obtain ⟨h1, rfl, h3⟩ := h
  have hb : byte (recB r) 0 = r.kind := by
    have := recB_byte h1 bz
    rwa [show ∀ y : ByteArray, y ++ bz = y from app_nil] at this
  have hr : rest1 (recB r) = bodyB r ++ bz := by
    have := recB_rest r bz
    rwa [show recB r ++ bz = recB r from app_nil _] at this
  rw [hb, hr]
  exact cRec_ok h1 (short_of h1 h3)
end Go.Proofs.Ytpjklbkfhgfmnaa
namespace Go.Proofs.Ytpjklbkfhgfmnaa
open Go.Chi

/-! ### the document's cutter -/
def cuC (c : Cut) : List Value := [.string c.1, .bool c.2]
abbrev cuB (bc : Nat) (c : Cut) : Nat × Obj := (bc, .cells ⟨cuC c⟩ 65 (0, 0))
theorem cN_nat (most : Nat) (c : Cut) : ∃ n : Nat, (cN most c).1 = n ∧ n ≤ most := by
  have := numR_pos c.1
  unfold cN
  split
  · rename_i h
    exact ⟨(numR c.1).1.toNat, by show (numR c.1).1 = _; omega, by omega⟩
  · exact ⟨0, rfl, Nat.zero_le _⟩
theorem cN_size (most : Nat) (c : Cut) : (cN most c).2.1.size ≤ c.1.size := by
  unfold cN
  split
  · show (c.1.extract _ _).size ≤ _
    simp
  · exact Nat.le_refl _
theorem cT_size (c : Cut) : (cT c).2.1.size ≤ c.1.size := by
  unfold cT
  split
  · show (c.1.extract _ _).size ≤ _
    simp
  · exact Nat.le_refl _
theorem cT_short (c : Cut) : (cT c).1.size ≤ 8192 := by
  unfold cT
  split
  · rename_i h
    obtain ⟨t, h1, h2, _⟩ := text_back h.2
    show (textR c.1 8192).1.size ≤ 8192
    rw [h2]; exact h1
  · exact Nat.zero_le _
set_option maxRecDepth 10000 in
set_option maxHeartbeats 8000000 in
theorem cnum_ok (M : Mem) (L : HL) (bc : Nat) (c : Cut) (most : Nat) (hm : most < 4611686018427387904) (_hs : c.1.size < 4611686018427387904) :
    Tr Try.prog 42 [.pointer (some ⟨bc, 0, none⟩), .int .i64 (most : Int)] M (cuB bc c :: L) (fun v M' L' => v = .int .i64 (cN most c).1 ∧ M = M' ∧ L' = cuB bc (cN most c).2 :: L) := by
  have e1 : IntKind.u64.wrap (most : Int) = (most : Int) := u64_nat (by omega)
  have hnp := numR_pos c.1
  refine Tr.intro 46 Try.func42 rfl rfl Try.call42 rfl ?_
  intro C hC hro
  repeat (first | with_reducible (first | refine run_seq ?_ | refine run_region ?_ | refine runL_nil ?_ | refine run_skip ?_ | refine run_block ?_ | refine run_inBlock ?_) | refine run_exit rfl ?_ | refine runL_q (qt_pev tok rfl) rfl rfl rfl ?_ | refine runL_g rfl rfl (qt_pev tok rfl) rfl rfl rfl rfl rfl ?_ | refine runL_q (ql tok rfl) rfl rfl rfl ?_ | refine runL_g rfl rfl (ql tok rfl) rfl rfl rfl rfl rfl ?_ | (refine runL_op0 (sst tok rfl rfl rfl rfl rfl) ?_; rintro _ _ _ ⟨rfl, rfl, rfl⟩) | (refine runL_op (st_box rfl) rfl rfl rfl ?_; rintro _ _ _ ⟨_, rfl, rfl, rfl⟩) | (refine runL_op (st_alloc tok rfl) rfl rfl rfl ?_; rintro _ _ _ ⟨_, rfl, rfl, rfl⟩) | (refine runL_op (st_buildSlice tok rfl rfl rfl rfl rfl rfl rfl) rfl rfl rfl ?_; rintro _ _ _ ⟨_, rfl, rfl, rfl⟩) | refine runL_q (qt_callF rfl (fun _ => refNum_ok _ _ c.1)) rfl rfl rfl ?_)
  have hcond : ∀ t : Bool, (((!c.2) || ((refNum c.1).2.2 != 0)) || decide ((refNum c.1).1 > IntKind.u64.wrap (most : Int))) = t → (t = false ↔ ((c.2 = true ∧ (numR c.1).2.2 = 0) ∧ (numR c.1).1 ≤ (most : Int))) := by
    rintro _ rfl
    rw [e1, refNum_eq]
    simp only [Bool.or_eq_false_iff, Bool.not_eq_false', bne_eq_false_iff_eq, decide_eq_false_iff_not]
    constructor
    · rintro ⟨h1, h2⟩; exact ⟨h1, by omega⟩
    · rintro ⟨h1, h2⟩; exact ⟨h1, by omega⟩
  refine run_cond rfl (fun h => ?_) (fun h => ?_)
  · have h1 : ¬ ((c.2 = true ∧ (numR c.1).2.2 = 0) ∧ (numR c.1).1 ≤ (most : Int)) := fun e => by have := (hcond true h).2 e; cases this
    repeat (first | with_reducible (first | refine run_seq ?_ | refine run_region ?_ | refine runL_nil ?_ | refine run_skip ?_ | refine run_block ?_ | refine run_inBlock ?_) | refine run_exit rfl ?_ | refine runL_q (qt_pev tok rfl) rfl rfl rfl ?_ | refine runL_g rfl rfl (qt_pev tok rfl) rfl rfl rfl rfl rfl ?_ | refine runL_q (ql tok rfl) rfl rfl rfl ?_ | refine runL_g rfl rfl (ql tok rfl) rfl rfl rfl rfl rfl ?_ | (refine runL_op0 (sst tok rfl rfl rfl rfl rfl) ?_; rintro _ _ _ ⟨rfl, rfl, rfl⟩) | (refine runL_op (st_box rfl) rfl rfl rfl ?_; rintro _ _ _ ⟨_, rfl, rfl, rfl⟩) | (refine runL_op (st_alloc tok rfl) rfl rfl rfl ?_; rintro _ _ _ ⟨_, rfl, rfl, rfl⟩) | (refine runL_op (st_buildSlice tok rfl rfl rfl rfl rfl rfl rfl) rfl rfl rfl ?_; rintro _ _ _ ⟨_, rfl, rfl, rfl⟩))
    exact run_ret hC (rs := [.tmp 4]) rfl (resT rfl resN) (fun _ h => h) ⟨by rw [cN, if_neg h1]; rfl, rfl, by rw [cN, if_neg h1]; rfl⟩
  · have h1 := (hcond false h).1 rfl
    obtain ⟨m, hm1, hm2, hm3⟩ := numR_len c.1 h1.1.2
    refine run_skip ?_
    repeat (first | with_reducible (first | refine run_seq ?_ | refine run_region ?_ | refine runL_nil ?_ | refine run_skip ?_ | refine run_block ?_ | refine run_inBlock ?_) | refine run_exit rfl ?_ | refine runL_q (qt_pev tok rfl) rfl rfl rfl ?_ | refine runL_g rfl rfl (qt_pev tok rfl) rfl rfl rfl rfl rfl ?_ | refine runL_q (ql tok rfl) rfl rfl rfl ?_ | refine runL_g rfl rfl (ql tok rfl) rfl rfl rfl rfl rfl ?_ | (refine runL_op0 (sst tok rfl rfl rfl rfl rfl) ?_; rintro _ _ _ ⟨rfl, rfl, rfl⟩) | (refine runL_op (st_box rfl) rfl rfl rfl ?_; rintro _ _ _ ⟨_, rfl, rfl, rfl⟩) | (refine runL_op (st_alloc tok rfl) rfl rfl rfl ?_; rintro _ _ _ ⟨_, rfl, rfl, rfl⟩) | (refine runL_op (st_buildSlice tok rfl rfl rfl rfl rfl rfl rfl) rfl rfl rfl ?_; rintro _ _ _ ⟨_, rfl, rfl, rfl⟩))
    refine runL_as 40 (.int .i64 (m : Int)) rfl (by rw [refNum_eq, hm1]) ?_
    repeat (first | with_reducible (first | refine run_seq ?_ | refine run_region ?_ | refine runL_nil ?_ | refine run_skip ?_ | refine run_block ?_ | refine run_inBlock ?_) | refine run_exit rfl ?_ | refine runL_q (qt_pev tok rfl) rfl rfl rfl ?_ | refine runL_g rfl rfl (qt_pev tok rfl) rfl rfl rfl rfl rfl ?_ | refine runL_q (ql tok rfl) rfl rfl rfl ?_ | refine runL_g rfl rfl (ql tok rfl) rfl rfl rfl rfl rfl ?_ | (refine runL_op0 (sst tok rfl rfl rfl rfl rfl) ?_; rintro _ _ _ ⟨rfl, rfl, rfl⟩) | (refine runL_op (st_box rfl) rfl rfl rfl ?_; rintro _ _ _ ⟨_, rfl, rfl, rfl⟩) | (refine runL_op (st_alloc tok rfl) rfl rfl rfl ?_; rintro _ _ _ ⟨_, rfl, rfl, rfl⟩) | (refine runL_op (st_buildSlice tok rfl rfl rfl rfl rfl rfl rfl) rfl rfl rfl ?_; rintro _ _ _ ⟨_, rfl, rfl, rfl⟩) | refine runL_q (qt_strLo (n := m) tok rfl rfl rfl (fun _ => hm3)) rfl rfl rfl ?_)
    have e2 : IntKind.i64.wrap (numR c.1).1 = (numR c.1).1 := by
      obtain ⟨x, hx⟩ : ∃ x : Nat, (numR c.1).1 = x := ⟨(numR c.1).1.toNat, by omega⟩
      rw [hx, wrap64_nat (by omega)]
    refine run_ret hC (rs := [.tmp 4]) rfl (resT rfl resN) (fun _ h => h) ⟨?_, rfl, ?_⟩
    · rw [cN, if_pos h1, refNum_eq, e2]; rfl
    · rw [cN, if_pos h1, hm1, h1.1.1.symm]; rfl
set_option maxRecDepth 10000 in
set_option maxHeartbeats 8000000 in
theorem ctext_ok (M : Mem) (L : HL) (bc : Nat) (c : Cut) (hs : c.1.size < 4611686018427387904) :
    Tr Try.prog 43 [.pointer (some ⟨bc, 0, none⟩)] M (cuB bc c :: L) (fun v M' L' => v = .string (cT c).1 ∧ M = M' ∧ L' = cuB bc (cT c).2 :: L) := by
  refine Tr.intro 37 Try.func43 rfl rfl Try.call43 rfl ?_
  intro C hC hro
  repeat (first | with_reducible (first | refine run_seq ?_ | refine run_region ?_ | refine runL_nil ?_ | refine run_skip ?_ | refine run_block ?_ | refine run_inBlock ?_) | refine run_exit rfl ?_ | refine runL_q (qt_pev tok rfl) rfl rfl rfl ?_ | refine runL_g rfl rfl (qt_pev tok rfl) rfl rfl rfl rfl rfl ?_ | refine runL_q (ql tok rfl) rfl rfl rfl ?_ | refine runL_g rfl rfl (ql tok rfl) rfl rfl rfl rfl rfl ?_ | (refine runL_op0 (sst tok rfl rfl rfl rfl rfl) ?_; rintro _ _ _ ⟨rfl, rfl, rfl⟩) | (refine runL_op (st_box rfl) rfl rfl rfl ?_; rintro _ _ _ ⟨_, rfl, rfl, rfl⟩) | (refine runL_op (st_alloc tok rfl) rfl rfl rfl ?_; rintro _ _ _ ⟨_, rfl, rfl, rfl⟩) | (refine runL_op (st_buildSlice tok rfl rfl rfl rfl rfl rfl rfl) rfl rfl rfl ?_; rintro _ _ _ ⟨_, rfl, rfl, rfl⟩) | refine runL_q (qt_callF rfl (fun _ => refText_ok _ _ c.1 8192 hs (by decide))) rfl rfl rfl ?_)
  have hcond : ∀ t : Bool, ((!c.2) || ((refText c.1 8192).2.2 != 0)) = t → (t = false ↔ (c.2 = true ∧ (textR c.1 8192).2.2 = 0)) := by
    rintro _ rfl
    rw [refText_eq]
    simp only [Bool.or_eq_false_iff, Bool.not_eq_false', bne_eq_false_iff_eq]
  refine run_cond rfl (fun h => ?_) (fun h => ?_)
  · have h1 : ¬ (c.2 = true ∧ (textR c.1 8192).2.2 = 0) := fun e => by have := (hcond true h).2 e; cases this
    repeat (first | with_reducible (first | refine run_seq ?_ | refine run_region ?_ | refine runL_nil ?_ | refine run_skip ?_ | refine run_block ?_ | refine run_inBlock ?_) | refine run_exit rfl ?_ | refine runL_q (qt_pev tok rfl) rfl rfl rfl ?_ | refine runL_g rfl rfl (qt_pev tok rfl) rfl rfl rfl rfl rfl ?_ | refine runL_q (ql tok rfl) rfl rfl rfl ?_ | refine runL_g rfl rfl (ql tok rfl) rfl rfl rfl rfl rfl ?_ | (refine runL_op0 (sst tok rfl rfl rfl rfl rfl) ?_; rintro _ _ _ ⟨rfl, rfl, rfl⟩) | (refine runL_op (st_box rfl) rfl rfl rfl ?_; rintro _ _ _ ⟨_, rfl, rfl, rfl⟩) | (refine runL_op (st_alloc tok rfl) rfl rfl rfl ?_; rintro _ _ _ ⟨_, rfl, rfl, rfl⟩) | (refine runL_op (st_buildSlice tok rfl rfl rfl rfl rfl rfl rfl) rfl rfl rfl ?_; rintro _ _ _ ⟨_, rfl, rfl, rfl⟩))
    exact run_ret hC (rs := [.tmp 2]) rfl (resT rfl resN) (fun _ h => h) ⟨by rw [cT, if_neg h1]; rfl, rfl, by rw [cT, if_neg h1]; rfl⟩
  · have h1 := (hcond false h).1 rfl
    obtain ⟨m, hm1, hm2, hm3⟩ := textR_len c.1 8192 h1.2
    refine run_skip ?_
    repeat (first | with_reducible (first | refine run_seq ?_ | refine run_region ?_ | refine runL_nil ?_ | refine run_skip ?_ | refine run_block ?_ | refine run_inBlock ?_) | refine run_exit rfl ?_ | refine runL_q (qt_pev tok rfl) rfl rfl rfl ?_ | refine runL_g rfl rfl (qt_pev tok rfl) rfl rfl rfl rfl rfl ?_ | refine runL_q (ql tok rfl) rfl rfl rfl ?_ | refine runL_g rfl rfl (ql tok rfl) rfl rfl rfl rfl rfl ?_ | (refine runL_op0 (sst tok rfl rfl rfl rfl rfl) ?_; rintro _ _ _ ⟨rfl, rfl, rfl⟩) | (refine runL_op (st_box rfl) rfl rfl rfl ?_; rintro _ _ _ ⟨_, rfl, rfl, rfl⟩) | (refine runL_op (st_alloc tok rfl) rfl rfl rfl ?_; rintro _ _ _ ⟨_, rfl, rfl, rfl⟩) | (refine runL_op (st_buildSlice tok rfl rfl rfl rfl rfl rfl rfl) rfl rfl rfl ?_; rintro _ _ _ ⟨_, rfl, rfl, rfl⟩))
    refine runL_as 32 (.int .i64 (m : Int)) rfl (by rw [refText_eq, hm1]) ?_
    repeat (first | with_reducible (first | refine run_seq ?_ | refine run_region ?_ | refine runL_nil ?_ | refine run_skip ?_ | refine run_block ?_ | refine run_inBlock ?_) | refine run_exit rfl ?_ | refine runL_q (qt_pev tok rfl) rfl rfl rfl ?_ | refine runL_g rfl rfl (qt_pev tok rfl) rfl rfl rfl rfl rfl ?_ | refine runL_q (ql tok rfl) rfl rfl rfl ?_ | refine runL_g rfl rfl (ql tok rfl) rfl rfl rfl rfl rfl ?_ | (refine runL_op0 (sst tok rfl rfl rfl rfl rfl) ?_; rintro _ _ _ ⟨rfl, rfl, rfl⟩) | (refine runL_op (st_box rfl) rfl rfl rfl ?_; rintro _ _ _ ⟨_, rfl, rfl, rfl⟩) | (refine runL_op (st_alloc tok rfl) rfl rfl rfl ?_; rintro _ _ _ ⟨_, rfl, rfl, rfl⟩) | (refine runL_op (st_buildSlice tok rfl rfl rfl rfl rfl rfl rfl) rfl rfl rfl ?_; rintro _ _ _ ⟨_, rfl, rfl, rfl⟩) | refine runL_q (qt_strLo (n := m) tok rfl rfl rfl (fun _ => hm3)) rfl rfl rfl ?_)
    refine run_ret hC (rs := [.tmp 2]) rfl (resT rfl resN) (fun _ h => h) ⟨?_, rfl, ?_⟩
    · rw [cT, if_pos h1, refText_eq]; rfl
    · rw [cT, if_pos h1, hm1, h1.1.symm]; rfl
end Go.Proofs.Ytpjklbkfhgfmnaa
namespace Go.Chi

/-! ### calls that may panic, in a region that draws its order -/
section
variable {P : Program} {C : Cx} {n : Nat} {k : List Item} {ds : List Deferred} {σ : Env} {δ : Den} {M : Mem} {L : HL} {ops : Array Oper} {D X : List Nat}

theorem PRst.looked {a â : Act} {w : World} {listed : Array Bool} {fuel i : Nat} (hs : PRst P C n ops ds D X σ δ M L a â w listed fuel) (hr : i ∈ Region.ready .any ops listed) (hchk : chkE1 ops D i = true) : ∀ t ∈ looks ops i, a.tmps[t]? = â.tmps[t]? := by
  obtain ⟨_, _, hpr⟩ := (ready_iff hs.hsz).1 hr
  unfold chkE1 at hchk
  simp only [Bool.and_eq_true, Bool.not_eq_true'] at hchk
  obtain ⟨⟨⟨⟨_, _⟩, hne⟩, _⟩, hD⟩ := hchk
  have hne' := memN_false hne
  have hbef := befs_lst (listed := listed) (e := i) hs.down hpr
  intro t ht
  refine hs.agree t fun q hq hqn hqs => ?_
  have hb : memN (befs ops i) q = false := by
    cases hx : memN (befs ops i) q with
    | false => rfl
    | true =>
      rcases hbef q (memN_iff.1 hx) with rfl | hl
      · exact absurd hq hne'
      · exact absurd hl hqn
  have := List.all_eq_true.1 hD q hq
  simp only [hb, Bool.false_or, Bool.and_eq_true, Bool.not_eq_true'] at this
  have h2 := this.1.2
  rw [hqs] at h2
  exact memN_false h2 ht

theorem PRst.eff {a â : Act} {w w' : World} {listed : Array Bool} {fuel i : Nat} {dst : Option Nat} {σ' : Env} {v : Value} {M' : Mem} {L' : HL} (hs : PRst P C n ops ds D X σ δ M L a â w listed (fuel + 1)) (hr : i ∈ Region.ready .any ops listed) (hchk : chkE1 ops D i = true)
    (hsl : slotOf ops i = dst) (hsee : ∀ a, a.tmps.size = n → Sees σ δ a → Sees σ' δ (a.put dst v)) (hp' : Hp M' L' w')
    (hopen : ∀ q ∈ open_ ops D X i, ∀ a, Sees σ δ a → Pend P C.b.roundOf ops q a M L → Pend P C.b.roundOf ops q a M' L') : PRst P C n ops ds (i :: D) (i :: X) σ' δ M' L' (a.put dst v) (â.put dst v) w' (listed.setIfInBounds i true) fuel := by
  obtain ⟨hil, hin, hpr⟩ := (ready_iff hs.hsz).1 hr
  unfold chkE1 at hchk
  simp only [Bool.and_eq_true, Bool.not_eq_true'] at hchk
  obtain ⟨⟨⟨⟨hlt, hpl⟩, hne⟩, _⟩, hD⟩ := hchk
  have hne' := memN_false hne
  have hil' : i < listed.size := by rw [hs.hsz]; exact hil
  have hbef := befs_lst (listed := listed) (e := i) hs.down hpr
  have hop : ∀ q ∈ D, ¬ Lst listed q → memN (befs ops i) q = false ∧ (∀ d, dst = some d → d ∉ looks ops q ∧ slotOf ops q ≠ some d) := fun q hq hqn => by
    have hb : memN (befs ops i) q = false := by
      cases hx : memN (befs ops i) q with
      | false => rfl
      | true =>
        rcases hbef q (memN_iff.1 hx) with rfl | hl
        · exact absurd hq hne'
        · exact absurd hl hqn
    have := List.all_eq_true.1 hD q hq
    simp only [hb, Bool.false_or, Bool.and_eq_true, Bool.not_eq_true'] at this
    refine ⟨hb, fun d hd => ?_⟩
    have h3 := this.2
    rw [hsl, hd] at h3
    exact freeOf_spec h3
  have hq' : ∀ q, ¬ Lst (listed.setIfInBounds i true) q → q ≠ i ∧ ¬ Lst listed q := fun q hq => ⟨fun e => hq ((lst_set hil').2 (.inl e)), fun e => hq ((lst_set hil').2 (.inr e))⟩
  have hD' : ∀ q, q ∈ i :: D → ¬ Lst (listed.setIfInBounds i true) q → q ∈ D ∧ ¬ Lst listed q := fun q hq hqn => by
    obtain ⟨h1, h2⟩ := hq' q hqn
    exact ⟨(List.mem_cons.1 hq).resolve_left h1, h2⟩
  have hput : ∀ (x : Act) t, x.tmps.size = n → (∀ d, dst = some d → t ≠ d) → (x.put dst v).tmps[t]? = x.tmps[t]? := fun x t hx ht => by
    cases dst with
    | none => rfl
    | some d =>
      show (x.tmps.setIfInBounds d v)[t]? = _
      rw [Array.getElem?_setIfInBounds_ne (fun e => ht d rfl e.symm)]
  exact {
    hsz := by simpa using hs.hsz
    cnt := cnt_set hs.hsz hil hin hs.cnt
    an := by rw [put_size]; exact hs.an
    hn := by rw [put_size]; exact hs.hn
    ad := by rw [put_defers]; exact hs.ad
    hd := by rw [put_defers]; exact hs.hd
    sees := hsee â hs.hn hs.sees
    hp := hp'
    down := fun j hj p hp => by
      rw [lst_set hil'] at hj ⊢
      rcases hj with rfl | hj
      · exact .inr (hpr p hp)
      · exact .inr (hs.down j hj p hp)
    sub := fun j hj => by
      rw [lst_set hil'] at hj
      rcases hj with rfl | hj
      · exact List.mem_cons_self
      · exact List.mem_cons_of_mem _ (hs.sub j hj)
    ex := fun j hj => by
      rw [lst_set hil']
      rcases List.mem_cons.1 hj with rfl | hj
      · exact .inl rfl
      · exact .inr (hs.ex j hj)
    pend := fun q hq hqn => by
      obtain ⟨h1, h2⟩ := hD' q hq hqn
      have hp := hopen q (List.mem_filter.2 ⟨h1, by
        have hx : memN X q = false := by
          cases hx : memN X q with
          | false => rfl
          | true => exact absurd (hs.ex q (memN_iff.1 hx)) h2
        rw [(hop q h1 h2).1, hx]; rfl⟩) â hs.sees (hs.pend q h1 h2)
      obtain ⟨o, d, ho', hdst, _⟩ := hs.pend q h1 h2
      have hse : slotOf ops q = some d := by rw [slot_of ho']; exact hdst
      refine Pend.congr (d := d) hse (fun t ht => ?_) ?_ hp
      · exact (hput â t hs.hn fun d' hd' x => ((hop q h1 h2).2 d' hd').1 (x ▸ ht)).symm
      · exact (hput â d hs.hn fun d' hd' x => ((hop q h1 h2).2 d' hd').2 (x ▸ hse)).symm
    agree := fun t ht => by
      cases hd : dst with
      | none =>
        exact hs.agree t fun q hq hqn => ht q (List.mem_cons_of_mem _ hq) (fun x => by rw [lst_set hil'] at x; exact x.elim (fun e => by subst e; exact hne' hq) hqn)
      | some d =>
        by_cases e : t = d
        · subst e
          show (a.tmps.setIfInBounds t v)[t]? = (â.tmps.setIfInBounds t v)[t]?
          have e1 := hs.an
          have e2 := hs.hn
          by_cases hb : t < n
          · rw [Array.getElem?_setIfInBounds_self_of_lt (by omega), Array.getElem?_setIfInBounds_self_of_lt (by omega)]
          · rw [Array.getElem?_eq_none (by simp; omega), Array.getElem?_eq_none (by simp; omega)]
        · have h1 := hput a t hs.an (fun d' hd' x => e (by rw [hd] at hd'; injection hd' with hd'; rw [x, hd']))
          have h2 := hput â t hs.hn (fun d' hd' x => e (by rw [hd] at hd'; injection hd' with hd'; rw [x, hd']))
          rw [hd] at h1 h2
          rw [h1, h2]
          exact hs.agree t fun q hq hqn => ht q (List.mem_cons_of_mem _ hq) (fun x => by rw [lst_set hil'] at x; exact x.elim (fun e => by subst e; exact hne' hq) hqn)
    wf := fun j hj hjn q hq hqn => hs.wf j (hD' j hj hjn).1 (hD' j hj hjn).2 q (hD' q hq hqn).1 (hD' q hq hqn).2
    uniq := fun j hj hjn q hq hqn => hs.uniq j (hD' j hj hjn).1 (hD' j hj hjn).2 q (hD' q hq hqn).1 (hD' q hq hqn).2 }

/-- the one effect that may come next: a function's call, which may panic -/
theorem pr_callE (e : Nat) {d : Nat} {ty : TypeId} {pos : String} {aft : Array Edge} {f : FuncId} {args : Array Operand} {tys : Array TypeId} {vs : List Value} {K : Ending → Mem → HL → Prop}
    (hchk : (acyc ops && chkC ops D [e] && chkE1 ops D e) = true) (ho : ops[e]? = some ⟨some d, .call ⟨.value (.func f), args, tys⟩, ty, pos, aft, none⟩)
    (ha : evs σ δ [] args.toList = some vs) (ht : TrE P f vs M L K) (hd : Nat.blt d n = true) (hn : lkd δ d = none) (hu : unNamed δ d = true)
    (h : ∀ v M' L', K (.returned v) M' L' → PendAll P C.b.roundOf ops σ δ M' L' (open_ ops D X e) ∧ PR P C n ops k ds (e :: D) (e :: X) ((d, v) :: σ) δ M' L')
    (hp : ∀ ch M' L', K (.panicked ch) M' L' → RunX P C n (.panicking ch) ds [] M' L') : PR P C n ops k ds D X σ δ M L := by
  simp only [Bool.and_eq_true] at hchk
  obtain ⟨⟨hac, hC⟩, hE⟩ := hchk
  have hE' := hE
  unfold chkE1 at hE'
  simp only [Bool.and_eq_true, Bool.not_eq_true'] at hE'
  have hlt0 := Nat.blt_eq.mp hE'.1.1.1.1
  have hpl : plainAt ops e = true := hE'.1.1.1.2
  have hne0 := memN_false hE'.1.1.2
  refine pump hac ?_ (fun a w h1 h2 h3 h4 hall => absurd (hall e hlt0) hne0)
  intro a â w listed fuel t i hs hr hi
  obtain ⟨hil, hin, hpr⟩ := (ready_iff hs.hsz).1 hr
  obtain rfl : i = e := by
    have := List.all_eq_true.1 hC i (List.mem_range.2 hil)
    simp only [Bool.or_eq_true, Bool.not_eq_true'] at this
    rcases this with (h1 | h1) | h1
    · exact absurd (memN_iff.1 h1) hi
    · exact List.mem_singleton.1 (memN_iff.1 h1)
    · have : (predsAt ops i).all (memN D) = true := List.all_eq_true.2 fun p hp => memN_iff.2 (hs.sub p (hpr p hp))
      rw [this] at h1; cases h1
  have hsl : slotOf ops i = some d := by rw [slot_of ho]
  have hag : ∀ t ∈ Oper.looksAt ops ⟨some d, .call ⟨.value (.func f), args, tys⟩, ty, pos, aft, none⟩, a.tmps[t]? = â.tmps[t]? := fun t ht => by
    refine hs.looked hr hE t ?_
    unfold looks; rw [ho]; exact ht
  have hg := stepGR_op (P := P) (b := C.b) (k := k) (cs := C.cs) (w := w) (rest := Region.linearise.go .any ops fuel t (listed.setIfInBounds i true) []) (a := a) ho (wanted_none rfl _)
  have hrun : ((⟨some d, .call ⟨.value (.func f), args, tys⟩, ty, pos, aft, none⟩ : Oper).semAt C.b.roundOf a.eval).run P w = .ok (.enter f ⟨vs⟩) w := by
    rw [sem_agree (ops := ops) (a' := â) rfl hag]
    rw [semAt_of (by intro c e; cases e)]
    have e1 : args.map â.eval = ⟨vs⟩ := by apply Array.ext'; simpa using evs_sound hs.sees (holds_nil â) ha
    simp only [execOp, resolve, e1, Act.eval, Deferred.ofValue, Sem.run_bind, Sem.run_pure, Result.andThen_ok, invoke]
    simpa using ht.1 w
  obtain ⟨en, w'', fr, ⟨M', L', hp', hK⟩, hne, hsteps, _, hl⟩ := ht.2 w hs.hp (C.b.atR a (.inRegion ops (i :: Region.linearise.go .any ops fuel t (listed.setIfInBounds i true) []) :: k) :: C.cs)
  have henter : step P (lone (C.b.atR a (.inRegion ops (i :: Region.linearise.go .any ops fuel t (listed.setIfInBounds i true) []) :: k)) C.cs w) =
      .next (lone (Frame.enter P f ⟨vs⟩ .normal) (C.b.atR a (.inRegion ops (i :: Region.linearise.go .any ops fuel t (listed.setIfInBounds i true) []) :: k) :: C.cs) w) :=
    step_lone_go (by rw [hg]; simp [stepG.apply, hrun, Frame.atR])
  cases en with
  | outgrown => exact absurd rfl hne
  | returned v =>
    have hstep := step_leave_returned (c := C.b.atR a (.inRegion ops (i :: Region.linearise.go .any ops fuel t (listed.setIfInBounds i true) []) :: k)) (cs := C.cs) hl
    rw [finish_op ho] at hstep
    obtain ⟨h5, h6⟩ := h v M' L' hK
    exact J.steps (.head henter (hsteps.trans (.one hstep))) (h6 _ (â.put (some d) v) w'' _ fuel t (hs.eff hr hE hsl (fun a hn' hse => hse.put (by rw [hn']; exact Nat.blt_eq.mp hd) hn hu v) hp' (fun q hq a hse _ => h5.mem q hq a hse)))
  | panicked ch =>
    have hstep := step_leave_panicked (c := C.b.atR a (.inRegion ops (i :: Region.linearise.go .any ops fuel t (listed.setIfInBounds i true) []) :: k)) (cs := C.cs) hl
    have hra : (C.b.atR a (.inRegion ops (i :: Region.linearise.go .any ops fuel t (listed.setIfInBounds i true) []) :: k)).raise ch = { C.b.atR a (.inRegion ops (i :: Region.linearise.go .any ops fuel t (listed.setIfInBounds i true) []) :: k) with mode := .panicking ch } := by simp [Frame.raise, Frame.atR]
    rw [hra] at hstep
    exact J.steps (.head henter (hsteps.trans (.one hstep))) (hp ch M' L' hK a w'' _ hs.an hs.ad ⟨fun t v e => by simp [lks] at e, fun t p v e => by simp [lkd] at e⟩ hp')
/-- in the order of the text -/
theorem prn_callE {i d : Nat} {ty : TypeId} {pos : String} {aft : Array Edge} {f : FuncId} {args : Array Operand} {tys : Array TypeId} {vs : List Value} {K : Ending → Mem → HL → Prop}
    (ho : ops[i]? = some ⟨some d, .call ⟨.value (.func f), args, tys⟩, ty, pos, aft, none⟩) (hchk : (acyc ops && chkC ops (dn i) [i] && chkE1 ops (dn i) i) = true)
    (ha : evs σ δ [] args.toList = some vs) (ht : TrE P f vs M L K) (hd : Nat.blt d n = true) (hn : lkd δ d = none) (hu : unNamed δ d = true)
    (hp : ∀ ch M' L', K (.panicked ch) M' L' → RunX P C n (.panicking ch) ds [] M' L')
    (h : ∀ v M' L', K (.returned v) M' L' → PendAll P C.b.roundOf ops σ δ M' L' (open_ ops (dn i) X i) ∧ PR P C n ops k ds (dn (i + 1)) (i :: X) ((d, v) :: σ) δ M' L') : PR P C n ops k ds (dn i) X σ δ M L := pr_callE i hchk ho ha ht hd hn hu h hp
end
end Go.Chi
namespace Go.Proofs.Ytpjklbkfhgfmnaa
open Go.Chi

/-! ### record's reader: a number, a text -/
/-- what the reader has read so far -/
structure Rd where
  kind : Int
  epoch : Int
  txn : Tx
  yes : Bool
  auditor : Int
  mv : Value
  tv : Value
  body : ByteArray
def rdC (q : Rd) (s : ByteArray) : List Value := [.int .u8 q.kind, .int .i64 q.epoch, .int .i64 q.txn.coord, .int .i64 q.txn.epoch, .int .i64 q.txn.seq, .bool q.yes, .int .i64 q.auditor, q.mv, q.tv, .string q.body, .string s]
abbrev rdB (bx : Nat) (q : Rd) (s : ByteArray) : Nat × Obj := (bx, .cells ⟨rdC q s⟩ 61 (0, 0))
def panR : List PanicEntry := [{ v := .iface 31 (.int .i64 7), recovered := false }]
def gotK {α : Type} (r : Option (α × ByteArray)) (enc : α → Value) (bx : Nat) (q : Rd) (s : ByteArray) (M : Mem) (L : HL) (en : Ending) (M' : Mem) (L' : HL) : Prop :=
  M' = M ∧ match r with | some x => en = .returned (enc x.1) ∧ L' = rdB bx q x.2 :: L | none => en = .panicked panR ∧ L' = rdB bx q s :: L
theorem rd_size {s : ByteArray} {a b : Nat} : (s.extract a b).size ≤ s.size := by simp; omega
set_option maxRecDepth 10000 in
set_option maxHeartbeats 8000000 in
theorem rnum_ok (M : Mem) (L : HL) (bx : Nat) (q : Rd) (s : ByteArray) (most : Nat) (hm : most < 4611686018427387904) (_hs : s.size < 4611686018427387904) :
    TrE Try.prog 112 [.pointer (some ⟨bx, 0, none⟩), .int .i64 (most : Int)] M (rdB bx q s :: L) (gotK (pN most s) (Value.int .i64) bx q s M L) := by
  refine TrE.intro 37 Try.func112 rfl rfl Try.call112 rfl ?_
  intro C hC hro
  have e1 : IntKind.u64.wrap (most : Int) = (most : Int) := u64_nat (by omega)
  have hnp := numR_pos s
  repeat (first | with_reducible (first | refine run_seq ?_ | refine run_region ?_ | refine runL_nil ?_ | refine run_skip ?_ | refine run_block ?_ | refine run_inBlock ?_) | refine run_exit rfl ?_ | refine runL_q (qt_pev tok rfl) rfl rfl rfl ?_ | refine runL_g rfl rfl (qt_pev tok rfl) rfl rfl rfl rfl rfl ?_ | refine runL_q (ql tok rfl) rfl rfl rfl ?_ | refine runL_g rfl rfl (ql tok rfl) rfl rfl rfl rfl rfl ?_ | (refine runL_op0 (sst tok rfl rfl rfl rfl rfl) ?_; rintro _ _ _ ⟨rfl, rfl, rfl⟩) | (refine runL_op (st_box rfl) rfl rfl rfl ?_; rintro _ _ _ ⟨_, rfl, rfl, rfl⟩) | (refine runL_op (st_alloc tok rfl) rfl rfl rfl ?_; rintro _ _ _ ⟨_, rfl, rfl, rfl⟩) | (refine runL_op (st_buildSlice tok rfl rfl rfl rfl rfl rfl rfl) rfl rfl rfl ?_; rintro _ _ _ ⟨_, rfl, rfl, rfl⟩) | refine runL_q (qt_callF rfl (fun _ => readNum_ok _ _ s)) rfl rfl rfl ?_)
  refine run_cond rfl (fun h => ?_) (fun h => ?_)
  · have h1 : ¬ ((numR s).2.2 = 0 ∧ (numR s).1 ≤ (most : Int)) := by
      rw [e1] at h
      simp at h
      rintro ⟨h2, h3⟩
      rcases h with h | h
      · exact h h2
      · omega
    repeat (first | with_reducible (first | refine run_seq ?_ | refine run_region ?_ | refine runL_nil ?_ | refine run_skip ?_ | refine run_block ?_ | refine run_inBlock ?_) | refine run_exit rfl ?_ | refine runL_q (qt_pev tok rfl) rfl rfl rfl ?_ | refine runL_g rfl rfl (qt_pev tok rfl) rfl rfl rfl rfl rfl ?_ | refine runL_q (ql tok rfl) rfl rfl rfl ?_ | refine runL_g rfl rfl (ql tok rfl) rfl rfl rfl rfl rfl ?_ | (refine runL_op0 (sst tok rfl rfl rfl rfl rfl) ?_; rintro _ _ _ ⟨rfl, rfl, rfl⟩) | (refine runL_op (st_box rfl) rfl rfl rfl ?_; rintro _ _ _ ⟨_, rfl, rfl, rfl⟩) | (refine runL_op (st_alloc tok rfl) rfl rfl rfl ?_; rintro _ _ _ ⟨_, rfl, rfl, rfl⟩) | (refine runL_op (st_buildSlice tok rfl rfl rfl rfl rfl rfl rfl) rfl rfl rfl ?_; rintro _ _ _ ⟨_, rfl, rfl, rfl⟩) | refine runL_q (qt_makeIfaceC tok rfl rfl rfl) rfl rfl rfl ?_)
    refine runL_panic hro rfl ?_
    exact runX_pan hC (fun _ h => h) ⟨rfl, by rw [pN, if_neg h1]; exact ⟨rfl, rfl⟩⟩
  · have h1 : (numR s).2.2 = 0 ∧ (numR s).1 ≤ (most : Int) := by
      rw [e1] at h
      simpa using h
    obtain ⟨m, hm1, hm2, hm3⟩ := numR_len s h1.1
    repeat (first | with_reducible (first | refine run_seq ?_ | refine run_region ?_ | refine runL_nil ?_ | refine run_skip ?_ | refine run_block ?_ | refine run_inBlock ?_) | refine run_exit rfl ?_ | refine runL_q (qt_pev tok rfl) rfl rfl rfl ?_ | refine runL_g rfl rfl (qt_pev tok rfl) rfl rfl rfl rfl rfl ?_ | refine runL_q (ql tok rfl) rfl rfl rfl ?_ | refine runL_g rfl rfl (ql tok rfl) rfl rfl rfl rfl rfl ?_ | (refine runL_op0 (sst tok rfl rfl rfl rfl rfl) ?_; rintro _ _ _ ⟨rfl, rfl, rfl⟩) | (refine runL_op (st_box rfl) rfl rfl rfl ?_; rintro _ _ _ ⟨_, rfl, rfl, rfl⟩) | (refine runL_op (st_alloc tok rfl) rfl rfl rfl ?_; rintro _ _ _ ⟨_, rfl, rfl, rfl⟩) | (refine runL_op (st_buildSlice tok rfl rfl rfl rfl rfl rfl rfl) rfl rfl rfl ?_; rintro _ _ _ ⟨_, rfl, rfl, rfl⟩))
    refine runL_as 31 (.int .i64 (m : Int)) rfl (by rw [hm1]) ?_
    repeat (first | with_reducible (first | refine run_seq ?_ | refine run_region ?_ | refine runL_nil ?_ | refine run_skip ?_ | refine run_block ?_ | refine run_inBlock ?_) | refine run_exit rfl ?_ | refine runL_q (qt_pev tok rfl) rfl rfl rfl ?_ | refine runL_g rfl rfl (qt_pev tok rfl) rfl rfl rfl rfl rfl ?_ | refine runL_q (ql tok rfl) rfl rfl rfl ?_ | refine runL_g rfl rfl (ql tok rfl) rfl rfl rfl rfl rfl ?_ | (refine runL_op0 (sst tok rfl rfl rfl rfl rfl) ?_; rintro _ _ _ ⟨rfl, rfl, rfl⟩) | (refine runL_op (st_box rfl) rfl rfl rfl ?_; rintro _ _ _ ⟨_, rfl, rfl, rfl⟩) | (refine runL_op (st_alloc tok rfl) rfl rfl rfl ?_; rintro _ _ _ ⟨_, rfl, rfl, rfl⟩) | (refine runL_op (st_buildSlice tok rfl rfl rfl rfl rfl rfl rfl) rfl rfl rfl ?_; rintro _ _ _ ⟨_, rfl, rfl, rfl⟩) | refine runL_q (qt_strLo (n := m) tok rfl rfl rfl (fun _ => hm3)) rfl rfl rfl ?_)
    have e2 : IntKind.i64.wrap (numR s).1 = (numR s).1 := by
      obtain ⟨x, hx⟩ : ∃ x : Nat, (numR s).1 = x := ⟨(numR s).1.toNat, by omega⟩
      rw [hx, wrap64_nat (by omega)]
    refine run_retX hro ?_
    refine runX_ret hC (rs := [.tmp 4]) rfl (resT rfl resN) (fun _ h => h) ⟨rfl, ?_⟩
    rw [pN, if_pos h1, e2, hm1]
    exact ⟨rfl, rfl⟩
set_option maxRecDepth 10000 in
set_option maxHeartbeats 8000000 in
theorem rtext_ok (M : Mem) (L : HL) (bx : Nat) (q : Rd) (s : ByteArray) (hs : s.size < 4611686018427387904) :
    TrE Try.prog 113 [.pointer (some ⟨bx, 0, none⟩)] M (rdB bx q s :: L) (gotK (pT s) Value.string bx q s M L) := by
  refine TrE.intro 28 Try.func113 rfl rfl Try.call113 rfl ?_
  intro C hC hro
  repeat (first | with_reducible (first | refine run_seq ?_ | refine run_region ?_ | refine runL_nil ?_ | refine run_skip ?_ | refine run_block ?_ | refine run_inBlock ?_) | refine run_exit rfl ?_ | refine runL_q (qt_pev tok rfl) rfl rfl rfl ?_ | refine runL_g rfl rfl (qt_pev tok rfl) rfl rfl rfl rfl rfl ?_ | refine runL_q (ql tok rfl) rfl rfl rfl ?_ | refine runL_g rfl rfl (ql tok rfl) rfl rfl rfl rfl rfl ?_ | (refine runL_op0 (sst tok rfl rfl rfl rfl rfl) ?_; rintro _ _ _ ⟨rfl, rfl, rfl⟩) | (refine runL_op (st_box rfl) rfl rfl rfl ?_; rintro _ _ _ ⟨_, rfl, rfl, rfl⟩) | (refine runL_op (st_alloc tok rfl) rfl rfl rfl ?_; rintro _ _ _ ⟨_, rfl, rfl, rfl⟩) | (refine runL_op (st_buildSlice tok rfl rfl rfl rfl rfl rfl rfl) rfl rfl rfl ?_; rintro _ _ _ ⟨_, rfl, rfl, rfl⟩) | refine runL_q (qt_callF rfl (fun _ => readText_ok _ _ s 8192 hs (by decide))) rfl rfl rfl ?_)
  refine run_cond rfl (fun h => ?_) (fun h => ?_)
  · have h1 : ¬ (textR s 8192).2.2 = 0 := by simpa using h
    repeat (first | with_reducible (first | refine run_seq ?_ | refine run_region ?_ | refine runL_nil ?_ | refine run_skip ?_ | refine run_block ?_ | refine run_inBlock ?_) | refine run_exit rfl ?_ | refine runL_q (qt_pev tok rfl) rfl rfl rfl ?_ | refine runL_g rfl rfl (qt_pev tok rfl) rfl rfl rfl rfl rfl ?_ | refine runL_q (ql tok rfl) rfl rfl rfl ?_ | refine runL_g rfl rfl (ql tok rfl) rfl rfl rfl rfl rfl ?_ | (refine runL_op0 (sst tok rfl rfl rfl rfl rfl) ?_; rintro _ _ _ ⟨rfl, rfl, rfl⟩) | (refine runL_op (st_box rfl) rfl rfl rfl ?_; rintro _ _ _ ⟨_, rfl, rfl, rfl⟩) | (refine runL_op (st_alloc tok rfl) rfl rfl rfl ?_; rintro _ _ _ ⟨_, rfl, rfl, rfl⟩) | (refine runL_op (st_buildSlice tok rfl rfl rfl rfl rfl rfl rfl) rfl rfl rfl ?_; rintro _ _ _ ⟨_, rfl, rfl, rfl⟩) | refine runL_q (qt_makeIfaceC tok rfl rfl rfl) rfl rfl rfl ?_)
    refine runL_panic hro rfl ?_
    exact runX_pan hC (fun _ h => h) ⟨rfl, by rw [pT, if_neg h1]; exact ⟨rfl, rfl⟩⟩
  · have h1 : (textR s 8192).2.2 = 0 := by simpa using h
    obtain ⟨m, hm1, hm2, hm3⟩ := textR_len s 8192 h1
    repeat (first | with_reducible (first | refine run_seq ?_ | refine run_region ?_ | refine runL_nil ?_ | refine run_skip ?_ | refine run_block ?_ | refine run_inBlock ?_) | refine run_exit rfl ?_ | refine runL_q (qt_pev tok rfl) rfl rfl rfl ?_ | refine runL_g rfl rfl (qt_pev tok rfl) rfl rfl rfl rfl rfl ?_ | refine runL_q (ql tok rfl) rfl rfl rfl ?_ | refine runL_g rfl rfl (ql tok rfl) rfl rfl rfl rfl rfl ?_ | (refine runL_op0 (sst tok rfl rfl rfl rfl rfl) ?_; rintro _ _ _ ⟨rfl, rfl, rfl⟩) | (refine runL_op (st_box rfl) rfl rfl rfl ?_; rintro _ _ _ ⟨_, rfl, rfl, rfl⟩) | (refine runL_op (st_alloc tok rfl) rfl rfl rfl ?_; rintro _ _ _ ⟨_, rfl, rfl, rfl⟩) | (refine runL_op (st_buildSlice tok rfl rfl rfl rfl rfl rfl rfl) rfl rfl rfl ?_; rintro _ _ _ ⟨_, rfl, rfl, rfl⟩))
    refine runL_as 23 (.int .i64 (m : Int)) rfl (by rw [hm1]) ?_
    repeat (first | with_reducible (first | refine run_seq ?_ | refine run_region ?_ | refine runL_nil ?_ | refine run_skip ?_ | refine run_block ?_ | refine run_inBlock ?_) | refine run_exit rfl ?_ | refine runL_q (qt_pev tok rfl) rfl rfl rfl ?_ | refine runL_g rfl rfl (qt_pev tok rfl) rfl rfl rfl rfl rfl ?_ | refine runL_q (ql tok rfl) rfl rfl rfl ?_ | refine runL_g rfl rfl (ql tok rfl) rfl rfl rfl rfl rfl ?_ | (refine runL_op0 (sst tok rfl rfl rfl rfl rfl) ?_; rintro _ _ _ ⟨rfl, rfl, rfl⟩) | (refine runL_op (st_box rfl) rfl rfl rfl ?_; rintro _ _ _ ⟨_, rfl, rfl, rfl⟩) | (refine runL_op (st_alloc tok rfl) rfl rfl rfl ?_; rintro _ _ _ ⟨_, rfl, rfl, rfl⟩) | (refine runL_op (st_buildSlice tok rfl rfl rfl rfl rfl rfl rfl) rfl rfl rfl ?_; rintro _ _ _ ⟨_, rfl, rfl, rfl⟩) | refine runL_q (qt_strLo (n := m) tok rfl rfl rfl (fun _ => hm3)) rfl rfl rfl ?_)
    refine run_retX hro ?_
    refine runX_ret hC (rs := [.tmp 2]) rfl (resT rfl resN) (fun _ h => h) ⟨rfl, ?_⟩
    rw [pT, if_pos h1, hm1]
    exact ⟨rfl, rfl⟩
end Go.Proofs.Ytpjklbkfhgfmnaa
namespace Go.Proofs.Ytpjklbkfhgfmnaa
open Go.Chi

/-! ### record's reader: its methods -/
section
variable {C : Cx} {n : Nat} {ops : Array Oper} {k : List Item} {ds : List Deferred} {σ : Env} {δ : Den} {M : Mem} {L : HL} {bx : Nat} {q : Rd} {s : ByteArray} {d : Nat} {ty : TypeId} {pos : String} {aft : Array Edge} {l : List Oper} {args : Array Operand} {tys : Array TypeId}
theorem runL_rnum {most : Nat} (ha : evs σ δ [] args.toList = some [.pointer (some ⟨bx, 0, none⟩), .int .i64 (most : Int)]) (hm : most < 4611686018427387904) (hs : s.size < 4611686018427387904) (hd : Nat.blt d n = true) (hn : lkd δ d = none) (hu : unNamed δ d = true)
    (h0 : ∀ v s', pN most s = some (v, s') → RunL Try.prog C n ops l k ds ((d, .int .i64 v) :: σ) δ M (rdB bx q s' :: L)) (h1 : pN most s = none → RunX Try.prog C n (.panicking panR) ds σ M (rdB bx q s :: L)) :
    RunL Try.prog C n ops (⟨some d, .call ⟨.value (.func 112), args, tys⟩, ty, pos, aft, none⟩ :: l) k ds σ δ M (rdB bx q s :: L) := by
  refine runL_callE ha (rnum_ok M L bx q s most hm hs) hd hn hu ?_ ?_
  · rintro v _ _ ⟨rfl, hv⟩
    cases hp : pN most s with
    | none => rw [hp] at hv; cases hv.1
    | some x =>
      rw [hp] at hv
      obtain ⟨hv, rfl⟩ := hv
      rw [Ending.returned.injEq] at hv
      subst hv
      exact h0 x.1 x.2 hp
  · rintro v _ _ ⟨rfl, hv⟩
    cases hp : pN most s with
    | some x => rw [hp] at hv; cases hv.1
    | none =>
      rw [hp] at hv
      obtain ⟨hv, rfl⟩ := hv
      rw [Ending.panicked.injEq] at hv
      subst hv
      exact h1 hp
theorem runL_rtext (ha : evs σ δ [] args.toList = some [.pointer (some ⟨bx, 0, none⟩)]) (hs : s.size < 4611686018427387904) (hd : Nat.blt d n = true) (hn : lkd δ d = none) (hu : unNamed δ d = true)
    (h0 : ∀ v s', pT s = some (v, s') → RunL Try.prog C n ops l k ds ((d, .string v) :: σ) δ M (rdB bx q s' :: L)) (h1 : pT s = none → RunX Try.prog C n (.panicking panR) ds σ M (rdB bx q s :: L)) :
    RunL Try.prog C n ops (⟨some d, .call ⟨.value (.func 113), args, tys⟩, ty, pos, aft, none⟩ :: l) k ds σ δ M (rdB bx q s :: L) := by
  refine runL_callE ha (rtext_ok M L bx q s hs) hd hn hu ?_ ?_
  · rintro v _ _ ⟨rfl, hv⟩
    cases hp : pT s with
    | none => rw [hp] at hv; cases hv.1
    | some x =>
      rw [hp] at hv
      obtain ⟨hv, rfl⟩ := hv
      rw [Ending.returned.injEq] at hv
      subst hv
      exact h0 x.1 x.2 hp
  · rintro v _ _ ⟨rfl, hv⟩
    cases hp : pT s with
    | some x => rw [hp] at hv; cases hv.1
    | none =>
      rw [hp] at hv
      obtain ⟨hv, rfl⟩ := hv
      rw [Ending.panicked.injEq] at hv
      subst hv
      exact h1 hp
end
/-- the reader holds what the record says -/
structure Rr (M : Mem) (q : Rd) (r : Re) : Prop where
  kind : q.kind = r.kind
  epoch : q.epoch = r.epoch
  txn : q.txn = r.txn
  yes : q.yes = r.yes
  auditor : q.auditor = r.auditor
  body : q.body = r.body
  mem : ∃ sm : SMb, q.mv = sm.v ∧ MbOk M sm ∧ sm.xs = r.mem
  tags : ∃ st : SStr, q.tv = st.v ∧ StOk M st ∧ st.xs = r.tags
  nilM : r.mem = [] → q.mv = .slice none 0 0
  nilT : r.tags = [] → q.tv = .slice none 0 0
theorem Rr.le {M M' : Mem} {q : Rd} {r : Re} (hm : M.le M') (h : Rr M q r) : Rr M' q r :=
  { h with mem := by obtain ⟨sm, h1, h2, h3⟩ := h.mem; exact ⟨sm, h1, h2.le hm, h3⟩, tags := by obtain ⟨sm, h1, h2, h3⟩ := h.tags; exact ⟨sm, h1, h2.le hm, h3⟩ }
def rmK (o : Option (Re × ByteArray)) (bx : Nat) (M : Mem) (L : HL) (en : Ending) (M' : Mem) (L' : HL) : Prop :=
  M.le M' ∧ match o with | some x => en = .returned (.tuple ⟨[]⟩) ∧ ∃ q, Rr M' q x.1 ∧ L' = rdB bx q x.2 :: L | none => en = .panicked panR ∧ L' = L
theorem rmK_none {bx : Nat} {M : Mem} {L : HL} : rmK none bx M L (.panicked panR) M L := ⟨Mem.le_refl _, rfl, rfl⟩
theorem rmK_some {bx : Nat} {M M' : Mem} {L : HL} {q : Rd} {r : Re} {s : ByteArray} (hm : M.le M') (h : Rr M' q r) : rmK (some (r, s)) bx M L (.returned (.tuple ⟨[]⟩)) M' (rdB bx q s :: L) := ⟨hm, rfl, q, h, rfl⟩
def stEpoch (r : Re) (s : ByteArray) : Option (Re × ByteArray) := (pN 255 s).bind fun x => some ({ r with epoch := x.1 }, x.2)
def stAuditor (r : Re) (s : ByteArray) : Option (Re × ByteArray) := (pN 7 s).bind fun x => some ({ r with auditor := x.1 }, x.2)
def stYes (r : Re) (s : ByteArray) : Option (Re × ByteArray) := (pN 1 s).bind fun x => some ({ r with yes := x.1 == 1 }, x.2)
def stBody (r : Re) (s : ByteArray) : Option (Re × ByteArray) := (pT s).bind fun x => some ({ r with body := x.1 }, x.2)
def stTxn (r : Re) (s : ByteArray) : Option (Re × ByteArray) := (pTx s).bind fun x => some ({ r with txn := x.1 }, x.2)
theorem pN_size {most : Nat} {s x : ByteArray} {v : Int} (h : pN most s = some (v, x)) : x.size ≤ s.size := by
  rw [(pN_back h).2.2, app_size]; omega
theorem pT_size {s x t : ByteArray} (h : pT s = some (t, x)) : x.size ≤ s.size := by
  rw [(pT_back h).2, app_size]; omega
set_option maxRecDepth 10000 in
set_option maxHeartbeats 8000000 in
theorem repoch_ok (M : Mem) (L : HL) (bx : Nat) (q : Rd) (r : Re) (s : ByteArray) (hs : s.size < 4611686018427387904) (hq : Rr M q r) :
    TrE Try.prog 107 [.pointer (some ⟨bx, 0, none⟩)] M (rdB bx q s :: L) (rmK (stEpoch r s) bx M L) := by
  refine TrE.intro 8 Try.func107 rfl rfl Try.call107 rfl ?_
  intro C hC hro
  repeat (first | with_reducible (first | refine run_seq ?_ | refine run_region ?_ | refine runL_nil ?_ | refine run_skip ?_ | refine run_block ?_ | refine run_inBlock ?_) | refine run_exit rfl ?_ | refine runL_q (qt_pev tok rfl) rfl rfl rfl ?_ | refine runL_g rfl rfl (qt_pev tok rfl) rfl rfl rfl rfl rfl ?_ | refine runL_q (ql tok rfl) rfl rfl rfl ?_ | refine runL_g rfl rfl (ql tok rfl) rfl rfl rfl rfl rfl ?_ | (refine runL_op0 (sst tok rfl rfl rfl rfl rfl) ?_; rintro _ _ _ ⟨rfl, rfl, rfl⟩) | (refine runL_op (st_box rfl) rfl rfl rfl ?_; rintro _ _ _ ⟨_, rfl, rfl, rfl⟩) | (refine runL_op (st_alloc tok rfl) rfl rfl rfl ?_; rintro _ _ _ ⟨_, rfl, rfl, rfl⟩) | (refine runL_op (st_buildSlice tok rfl rfl rfl rfl rfl rfl rfl) rfl rfl rfl ?_; rintro _ _ _ ⟨_, rfl, rfl, rfl⟩))
  refine runL_rnum (most := 255) rfl (by decide) hs rfl rfl rfl (fun v s' hp => ?_) (fun hp => ?_)
  · repeat (first | with_reducible (first | refine run_seq ?_ | refine run_region ?_ | refine runL_nil ?_ | refine run_skip ?_ | refine run_block ?_ | refine run_inBlock ?_) | refine run_exit rfl ?_ | refine runL_q (qt_pev tok rfl) rfl rfl rfl ?_ | refine runL_g rfl rfl (qt_pev tok rfl) rfl rfl rfl rfl rfl ?_ | refine runL_q (ql tok rfl) rfl rfl rfl ?_ | refine runL_g rfl rfl (ql tok rfl) rfl rfl rfl rfl rfl ?_ | (refine runL_op0 (sst tok rfl rfl rfl rfl rfl) ?_; rintro _ _ _ ⟨rfl, rfl, rfl⟩) | (refine runL_op (st_box rfl) rfl rfl rfl ?_; rintro _ _ _ ⟨_, rfl, rfl, rfl⟩) | (refine runL_op (st_alloc tok rfl) rfl rfl rfl ?_; rintro _ _ _ ⟨_, rfl, rfl, rfl⟩) | (refine runL_op (st_buildSlice tok rfl rfl rfl rfl rfl rfl rfl) rfl rfl rfl ?_; rintro _ _ _ ⟨_, rfl, rfl, rfl⟩))
    refine run_endX hro ?_
    refine runX_ret hC (rs := []) rfl (vs := []) trivial (fun _ h => h) ?_
    rw [stEpoch, hp]
    exact rmK_some (q := { q with epoch := v }) (Mem.le_refl _) { hq with epoch := rfl }
  · refine runX_pan hC (fun _ h => h.drop) ?_
    rw [stEpoch, hp]
    exact rmK_none
set_option maxRecDepth 10000 in
set_option maxHeartbeats 8000000 in
theorem rauditor_ok (M : Mem) (L : HL) (bx : Nat) (q : Rd) (r : Re) (s : ByteArray) (hs : s.size < 4611686018427387904) (hq : Rr M q r) :
    TrE Try.prog 105 [.pointer (some ⟨bx, 0, none⟩)] M (rdB bx q s :: L) (rmK (stAuditor r s) bx M L) := by
  refine TrE.intro 8 Try.func105 rfl rfl Try.call105 rfl ?_
  intro C hC hro
  repeat (first | with_reducible (first | refine run_seq ?_ | refine run_region ?_ | refine runL_nil ?_ | refine run_skip ?_ | refine run_block ?_ | refine run_inBlock ?_) | refine run_exit rfl ?_ | refine runL_q (qt_pev tok rfl) rfl rfl rfl ?_ | refine runL_g rfl rfl (qt_pev tok rfl) rfl rfl rfl rfl rfl ?_ | refine runL_q (ql tok rfl) rfl rfl rfl ?_ | refine runL_g rfl rfl (ql tok rfl) rfl rfl rfl rfl rfl ?_ | (refine runL_op0 (sst tok rfl rfl rfl rfl rfl) ?_; rintro _ _ _ ⟨rfl, rfl, rfl⟩) | (refine runL_op (st_box rfl) rfl rfl rfl ?_; rintro _ _ _ ⟨_, rfl, rfl, rfl⟩) | (refine runL_op (st_alloc tok rfl) rfl rfl rfl ?_; rintro _ _ _ ⟨_, rfl, rfl, rfl⟩) | (refine runL_op (st_buildSlice tok rfl rfl rfl rfl rfl rfl rfl) rfl rfl rfl ?_; rintro _ _ _ ⟨_, rfl, rfl, rfl⟩))
  refine runL_rnum (most := 7) rfl (by decide) hs rfl rfl rfl (fun v s' hp => ?_) (fun hp => ?_)
  · repeat (first | with_reducible (first | refine run_seq ?_ | refine run_region ?_ | refine runL_nil ?_ | refine run_skip ?_ | refine run_block ?_ | refine run_inBlock ?_) | refine run_exit rfl ?_ | refine runL_q (qt_pev tok rfl) rfl rfl rfl ?_ | refine runL_g rfl rfl (qt_pev tok rfl) rfl rfl rfl rfl rfl ?_ | refine runL_q (ql tok rfl) rfl rfl rfl ?_ | refine runL_g rfl rfl (ql tok rfl) rfl rfl rfl rfl rfl ?_ | (refine runL_op0 (sst tok rfl rfl rfl rfl rfl) ?_; rintro _ _ _ ⟨rfl, rfl, rfl⟩) | (refine runL_op (st_box rfl) rfl rfl rfl ?_; rintro _ _ _ ⟨_, rfl, rfl, rfl⟩) | (refine runL_op (st_alloc tok rfl) rfl rfl rfl ?_; rintro _ _ _ ⟨_, rfl, rfl, rfl⟩) | (refine runL_op (st_buildSlice tok rfl rfl rfl rfl rfl rfl rfl) rfl rfl rfl ?_; rintro _ _ _ ⟨_, rfl, rfl, rfl⟩))
    refine run_endX hro ?_
    refine runX_ret hC (rs := []) rfl (vs := []) trivial (fun _ h => h) ?_
    rw [stAuditor, hp]
    exact rmK_some (q := { q with auditor := v }) (Mem.le_refl _) { hq with auditor := rfl }
  · refine runX_pan hC (fun _ h => h.drop) ?_
    rw [stAuditor, hp]
    exact rmK_none
set_option maxRecDepth 10000 in
set_option maxHeartbeats 8000000 in
theorem ryes_ok (M : Mem) (L : HL) (bx : Nat) (q : Rd) (r : Re) (s : ByteArray) (hs : s.size < 4611686018427387904) (hq : Rr M q r) :
    TrE Try.prog 111 [.pointer (some ⟨bx, 0, none⟩)] M (rdB bx q s :: L) (rmK (stYes r s) bx M L) := by
  refine TrE.intro 9 Try.func111 rfl rfl Try.call111 rfl ?_
  intro C hC hro
  repeat (first | with_reducible (first | refine run_seq ?_ | refine run_region ?_ | refine runL_nil ?_ | refine run_skip ?_ | refine run_block ?_ | refine run_inBlock ?_) | refine run_exit rfl ?_ | refine runL_q (qt_pev tok rfl) rfl rfl rfl ?_ | refine runL_g rfl rfl (qt_pev tok rfl) rfl rfl rfl rfl rfl ?_ | refine runL_q (ql tok rfl) rfl rfl rfl ?_ | refine runL_g rfl rfl (ql tok rfl) rfl rfl rfl rfl rfl ?_ | (refine runL_op0 (sst tok rfl rfl rfl rfl rfl) ?_; rintro _ _ _ ⟨rfl, rfl, rfl⟩) | (refine runL_op (st_box rfl) rfl rfl rfl ?_; rintro _ _ _ ⟨_, rfl, rfl, rfl⟩) | (refine runL_op (st_alloc tok rfl) rfl rfl rfl ?_; rintro _ _ _ ⟨_, rfl, rfl, rfl⟩) | (refine runL_op (st_buildSlice tok rfl rfl rfl rfl rfl rfl rfl) rfl rfl rfl ?_; rintro _ _ _ ⟨_, rfl, rfl, rfl⟩))
  refine runL_rnum (most := 1) rfl (by decide) hs rfl rfl rfl (fun v s' hp => ?_) (fun hp => ?_)
  · repeat (first | with_reducible (first | refine run_seq ?_ | refine run_region ?_ | refine runL_nil ?_ | refine run_skip ?_ | refine run_block ?_ | refine run_inBlock ?_) | refine run_exit rfl ?_ | refine runL_q (qt_pev tok rfl) rfl rfl rfl ?_ | refine runL_g rfl rfl (qt_pev tok rfl) rfl rfl rfl rfl rfl ?_ | refine runL_q (ql tok rfl) rfl rfl rfl ?_ | refine runL_g rfl rfl (ql tok rfl) rfl rfl rfl rfl rfl ?_ | (refine runL_op0 (sst tok rfl rfl rfl rfl rfl) ?_; rintro _ _ _ ⟨rfl, rfl, rfl⟩) | (refine runL_op (st_box rfl) rfl rfl rfl ?_; rintro _ _ _ ⟨_, rfl, rfl, rfl⟩) | (refine runL_op (st_alloc tok rfl) rfl rfl rfl ?_; rintro _ _ _ ⟨_, rfl, rfl, rfl⟩) | (refine runL_op (st_buildSlice tok rfl rfl rfl rfl rfl rfl rfl) rfl rfl rfl ?_; rintro _ _ _ ⟨_, rfl, rfl, rfl⟩))
    refine run_endX hro ?_
    refine runX_ret hC (rs := []) rfl (vs := []) trivial (fun _ h => h) ?_
    rw [stYes, hp]
    exact rmK_some (q := { q with yes := v == 1 }) (Mem.le_refl _) { hq with yes := rfl }
  · refine runX_pan hC (fun _ h => h.drop) ?_
    rw [stYes, hp]
    exact rmK_none
set_option maxRecDepth 10000 in
set_option maxHeartbeats 8000000 in
theorem rbody_ok (M : Mem) (L : HL) (bx : Nat) (q : Rd) (r : Re) (s : ByteArray) (hs : s.size < 4611686018427387904) (hq : Rr M q r) :
    TrE Try.prog 106 [.pointer (some ⟨bx, 0, none⟩)] M (rdB bx q s :: L) (rmK (stBody r s) bx M L) := by
  refine TrE.intro 8 Try.func106 rfl rfl Try.call106 rfl ?_
  intro C hC hro
  repeat (first | with_reducible (first | refine run_seq ?_ | refine run_region ?_ | refine runL_nil ?_ | refine run_skip ?_ | refine run_block ?_ | refine run_inBlock ?_) | refine run_exit rfl ?_ | refine runL_q (qt_pev tok rfl) rfl rfl rfl ?_ | refine runL_g rfl rfl (qt_pev tok rfl) rfl rfl rfl rfl rfl ?_ | refine runL_q (ql tok rfl) rfl rfl rfl ?_ | refine runL_g rfl rfl (ql tok rfl) rfl rfl rfl rfl rfl ?_ | (refine runL_op0 (sst tok rfl rfl rfl rfl rfl) ?_; rintro _ _ _ ⟨rfl, rfl, rfl⟩) | (refine runL_op (st_box rfl) rfl rfl rfl ?_; rintro _ _ _ ⟨_, rfl, rfl, rfl⟩) | (refine runL_op (st_alloc tok rfl) rfl rfl rfl ?_; rintro _ _ _ ⟨_, rfl, rfl, rfl⟩) | (refine runL_op (st_buildSlice tok rfl rfl rfl rfl rfl rfl rfl) rfl rfl rfl ?_; rintro _ _ _ ⟨_, rfl, rfl, rfl⟩))
  refine runL_rtext rfl hs rfl rfl rfl (fun v s' hp => ?_) (fun hp => ?_)
  · repeat (first | with_reducible (first | refine run_seq ?_ | refine run_region ?_ | refine runL_nil ?_ | refine run_skip ?_ | refine run_block ?_ | refine run_inBlock ?_) | refine run_exit rfl ?_ | refine runL_q (qt_pev tok rfl) rfl rfl rfl ?_ | refine runL_g rfl rfl (qt_pev tok rfl) rfl rfl rfl rfl rfl ?_ | refine runL_q (ql tok rfl) rfl rfl rfl ?_ | refine runL_g rfl rfl (ql tok rfl) rfl rfl rfl rfl rfl ?_ | (refine runL_op0 (sst tok rfl rfl rfl rfl rfl) ?_; rintro _ _ _ ⟨rfl, rfl, rfl⟩) | (refine runL_op (st_box rfl) rfl rfl rfl ?_; rintro _ _ _ ⟨_, rfl, rfl, rfl⟩) | (refine runL_op (st_alloc tok rfl) rfl rfl rfl ?_; rintro _ _ _ ⟨_, rfl, rfl, rfl⟩) | (refine runL_op (st_buildSlice tok rfl rfl rfl rfl rfl rfl rfl) rfl rfl rfl ?_; rintro _ _ _ ⟨_, rfl, rfl, rfl⟩))
    refine run_endX hro ?_
    refine runX_ret hC (rs := []) rfl (vs := []) trivial (fun _ h => h) ?_
    rw [stBody, hp]
    exact rmK_some (q := { q with body := v }) (Mem.le_refl _) { hq with body := rfl }
  · refine runX_pan hC (fun _ h => h.drop) ?_
    rw [stBody, hp]
    exact rmK_none
set_option maxRecDepth 10000 in
set_option maxHeartbeats 8000000 in
theorem rtxn_ok (M : Mem) (L : HL) (bx : Nat) (q : Rd) (r : Re) (s : ByteArray) (hs : s.size < 4611686018427387904) (hq : Rr M q r) :
    TrE Try.prog 110 [.pointer (some ⟨bx, 0, none⟩)] M (rdB bx q s :: L) (rmK (stTxn r s) bx M L) := by
  refine TrE.intro 23 Try.func110 rfl rfl Try.call110 rfl ?_
  intro C hC hro
  repeat (first | with_reducible (first | refine run_seq ?_ | refine run_region ?_ | refine runL_nil ?_ | refine run_skip ?_ | refine run_block ?_ | refine run_inBlock ?_) | refine run_exit rfl ?_ | refine runL_q (qt_pev tok rfl) rfl rfl rfl ?_ | refine runL_g rfl rfl (qt_pev tok rfl) rfl rfl rfl rfl rfl ?_ | refine runL_q (ql tok rfl) rfl rfl rfl ?_ | refine runL_g rfl rfl (ql tok rfl) rfl rfl rfl rfl rfl ?_ | (refine runL_op0 (sst tok rfl rfl rfl rfl rfl) ?_; rintro _ _ _ ⟨rfl, rfl, rfl⟩) | (refine runL_op (st_box rfl) rfl rfl rfl ?_; rintro _ _ _ ⟨_, rfl, rfl, rfl⟩) | (refine runL_op (st_alloc tok rfl) rfl rfl rfl ?_; rintro _ _ _ ⟨_, rfl, rfl, rfl⟩) | (refine runL_op (st_buildSlice tok rfl rfl rfl rfl rfl rfl rfl) rfl rfl rfl ?_; rintro _ _ _ ⟨_, rfl, rfl, rfl⟩))
  refine runL_rnum (most := 7) rfl (by decide) hs rfl rfl rfl (fun v1 s1 hp1 => ?_) (fun hp => ?_)
  rotate_left
  · refine runX_pan hC (fun _ h => h.drop) ?_
    rw [stTxn, pTx, hp]
    exact rmK_none
  have hz1 := pN_size hp1
  repeat (first | with_reducible (first | refine run_seq ?_ | refine run_region ?_ | refine runL_nil ?_ | refine run_skip ?_ | refine run_block ?_ | refine run_inBlock ?_) | refine run_exit rfl ?_ | refine runL_q (qt_pev tok rfl) rfl rfl rfl ?_ | refine runL_g rfl rfl (qt_pev tok rfl) rfl rfl rfl rfl rfl ?_ | refine runL_q (ql tok rfl) rfl rfl rfl ?_ | refine runL_g rfl rfl (ql tok rfl) rfl rfl rfl rfl rfl ?_ | (refine runL_op0 (sst tok rfl rfl rfl rfl rfl) ?_; rintro _ _ _ ⟨rfl, rfl, rfl⟩) | (refine runL_op (st_box rfl) rfl rfl rfl ?_; rintro _ _ _ ⟨_, rfl, rfl, rfl⟩) | (refine runL_op (st_alloc tok rfl) rfl rfl rfl ?_; rintro _ _ _ ⟨_, rfl, rfl, rfl⟩) | (refine runL_op (st_buildSlice tok rfl rfl rfl rfl rfl rfl rfl) rfl rfl rfl ?_; rintro _ _ _ ⟨_, rfl, rfl, rfl⟩))
  refine runL_rnum (q := { q with txn := ⟨v1, q.txn.epoch, q.txn.seq⟩ }) (most := 255) rfl (by decide) (by omega) rfl rfl rfl (fun v2 s2 hp2 => ?_) (fun hp => ?_)
  rotate_left
  · refine runX_pan hC (fun _ h => h.drop) ?_
    rw [stTxn, pTx, hp1, Option.bind_some, hp]
    exact rmK_none
  have hz2 := pN_size hp2
  repeat (first | with_reducible (first | refine run_seq ?_ | refine run_region ?_ | refine runL_nil ?_ | refine run_skip ?_ | refine run_block ?_ | refine run_inBlock ?_) | refine run_exit rfl ?_ | refine runL_q (qt_pev tok rfl) rfl rfl rfl ?_ | refine runL_g rfl rfl (qt_pev tok rfl) rfl rfl rfl rfl rfl ?_ | refine runL_q (ql tok rfl) rfl rfl rfl ?_ | refine runL_g rfl rfl (ql tok rfl) rfl rfl rfl rfl rfl ?_ | (refine runL_op0 (sst tok rfl rfl rfl rfl rfl) ?_; rintro _ _ _ ⟨rfl, rfl, rfl⟩) | (refine runL_op (st_box rfl) rfl rfl rfl ?_; rintro _ _ _ ⟨_, rfl, rfl, rfl⟩) | (refine runL_op (st_alloc tok rfl) rfl rfl rfl ?_; rintro _ _ _ ⟨_, rfl, rfl, rfl⟩) | (refine runL_op (st_buildSlice tok rfl rfl rfl rfl rfl rfl rfl) rfl rfl rfl ?_; rintro _ _ _ ⟨_, rfl, rfl, rfl⟩))
  refine runL_rnum (q := { q with txn := ⟨v1, v2, q.txn.seq⟩ }) (most := 65535) rfl (by decide) (by omega) rfl rfl rfl (fun v3 s3 hp3 => ?_) (fun hp => ?_)
  rotate_left
  · refine runX_pan hC (fun _ h => h.drop) ?_
    rw [stTxn, pTx, hp1, Option.bind_some, hp2, Option.bind_some, hp]
    exact rmK_none
  repeat (first | with_reducible (first | refine run_seq ?_ | refine run_region ?_ | refine runL_nil ?_ | refine run_skip ?_ | refine run_block ?_ | refine run_inBlock ?_) | refine run_exit rfl ?_ | refine runL_q (qt_pev tok rfl) rfl rfl rfl ?_ | refine runL_g rfl rfl (qt_pev tok rfl) rfl rfl rfl rfl rfl ?_ | refine runL_q (ql tok rfl) rfl rfl rfl ?_ | refine runL_g rfl rfl (ql tok rfl) rfl rfl rfl rfl rfl ?_ | (refine runL_op0 (sst tok rfl rfl rfl rfl rfl) ?_; rintro _ _ _ ⟨rfl, rfl, rfl⟩) | (refine runL_op (st_box rfl) rfl rfl rfl ?_; rintro _ _ _ ⟨_, rfl, rfl, rfl⟩) | (refine runL_op (st_alloc tok rfl) rfl rfl rfl ?_; rintro _ _ _ ⟨_, rfl, rfl, rfl⟩) | (refine runL_op (st_buildSlice tok rfl rfl rfl rfl rfl rfl rfl) rfl rfl rfl ?_; rintro _ _ _ ⟨_, rfl, rfl, rfl⟩))
  refine run_endX hro ?_
  refine runX_ret hC (rs := []) rfl (vs := []) trivial (fun _ h => h) ?_
  rw [stTxn, pTx, hp1, Option.bind_some, hp2, Option.bind_some, hp3]
  exact rmK_some (q := { q with txn := ⟨v1, v2, v3⟩ }) (Mem.le_refl _) { hq with txn := rfl }
end Go.Proofs.Ytpjklbkfhgfmnaa
