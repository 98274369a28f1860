import Derived.Test.YtemiflllckincaaLgX
import Derived.Laws.Runes
import Derived.Laws.RangeAny
namespace Go.Chi
section
variable {P : Program} {C : Cx} {n : Nat} {k : List Item} {ds : List Deferred} {T : TT} {ro : Option Nat} {σ : Env} {δ : Den} {cur : Path} {M : Mem} {L : HL} {d : Option Nat} {ty : TypeId} {pos : String} {aft : Array Edge} {g : Option (Nat × Bool)} {v : Value}
theorem run_scope {c : Code} (h : Run P C n (.code c :: .inScope c :: k) ds σ M L) : Run P C n (.code (.scope c) :: k) ds σ M L :=
  fun a w h1 h2 h3 h4 => J.step (step_lone_go (by simp [stepG, stepG.exec, Frame.atR])) (h a w h1 h2 h3 h4)
theorem run_inScope {c : Code} (h : Run P C n k ds σ M L) : Run P C n (.inScope c :: k) ds σ M L :=
  fun a w h1 h2 h3 h4 => J.step (step_lone_go (by simp [stepG, stepG.exec, Frame.atR])) (h a w h1 h2 h3 h4)

/-- a call of an entry of the model's -/
theorem qt_callX {f : FuncId} {fn : Func} {e : Array Value → Sem Value} {args : Array Operand} {tys : Array TypeId} {vs : List Value} (hf : P.funcs[f]? = some fn) (hname : (fn.name == "runtime.NumGoroutine") = false)
    (hb : fn.body.isNone = true) (hn : Extern.findNext fn = none) (he : Extern.find fn = some e) (ha : evs σ δ cur args.toList = some vs) (h : ∀ w, (e ⟨vs⟩).run P w = .ok v w) :
    Qt P ro ⟨d, .call ⟨.value (.func f), args, tys⟩, ty, pos, aft, g⟩ σ δ cur M L v := fun a w hs hcur hp => by
  refine opWp_value (w' := w) (v := v) ?_ ⟨M, L, hp, rfl, rfl, rfl⟩
  rw [semAt_of (by intro c e; cases e)]
  have e1 : args.map a.eval = ⟨vs⟩ := by apply Array.ext'; simpa using evs_sound hs hcur ha
  simp only [execOp, resolve, e1, Act.eval, Deferred.ofValue, Sem.run_bind, Sem.run_pure, Result.andThen_ok, invoke]
  have hx := run_callFunc_extern (P := P) hf hname hb hn he ⟨vs⟩ w
  rw [h w] at hx
  simpa using hx

/-- a range over a string -/
theorem st_rangeS (hT : TOk P T) {t : TypeId} {x : Operand} {s : ByteArray} (hu : und T t = some .string) (hx : ev σ δ cur x = some (.string s)) :
    St P ro ⟨d, .range t x, ty, pos, aft, g⟩ σ δ cur M L (fun v' M' L' => ∃ b, v' = .pointer (some ⟨b, 0, none⟩) ∧ M = M' ∧ L' = (b, .stringIter s 0) :: L) := fun a w hs hcur hp => by
  refine opWp_value (v := .pointer (some ⟨w.heap.size, 0, none⟩)) (w' := { w with heap := w.heap.push (.stringIter s 0) }) ?_ ⟨M, _, hp.push _, _, rfl, rfl, rfl⟩
  rw [semAt_of (by intro c e; cases e)]
  simp [execOp, Instr.range, ev_sound hs hcur hx, run_und hT hu]

theorem st_nextS {x : Operand} {s : ByteArray} {b p : Nat} {L' : HL} (hx : ev σ δ cur x = some (.pointer (some ⟨b, 0, none⟩))) (hu : Upd L b (.stringIter s p) (.stringIter s (p + (Utf8.decode s p).2)) L') (hp' : p < s.size) :
    St P ro ⟨d, .next x true, ty, pos, aft, g⟩ σ δ cur M L (fun v' M' L1 => v' = .tuple ⟨[.bool true, .int .i64 (p : Int), .int .i32 (Utf8.decode s p).1]⟩ ∧ M = M' ∧ L1 = L') := fun a w hs hcur hp => by
  have hb := hp.own _ hu.mem
  have hlt := (Array.getElem?_eq_some_iff.1 hb).1
  refine opWp_value (v := .tuple ⟨[.bool true, .int .i64 (p : Int), .int .i32 (Utf8.decode s p).1]⟩) (w' := { w with heap := w.heap.setIfInBounds b (.stringIter s (p + (Utf8.decode s p).2)) }) ?_ ⟨M, L', hp.upd hu rfl rfl rfl ?_ ?_, rfl, rfl, rfl⟩
  · rw [semAt_of (by intro c e; cases e)]
    simp only [execOp, ev_sound hs hcur hx, Instr.next, getObj, setObj, Sem.run_bind, Sem.run, hb, Result.andThen, hp', if_true]
    simp [goInt]
  · simp [hlt]
  · intro j hj
    show (w.heap.setIfInBounds b _)[j]? = _
    rw [Array.getElem?_setIfInBounds, if_neg (fun e => hj e.symm)]
theorem qt_nextEnd {x : Operand} {s : ByteArray} {b p : Nat} (hx : ev σ δ cur x = some (.pointer (some ⟨b, 0, none⟩))) (hm : (b, Obj.stringIter s p) ∈ L) (hp' : ¬ p < s.size) :
    Qt P ro ⟨d, .next x true, ty, pos, aft, g⟩ σ δ cur M L (.tuple ⟨[.bool false]⟩) :=
  qt_of_run (semAt_of (by intro c e; cases e)) fun a w hs hcur hp => by
    have hb := hp.own _ hm
    simp only [execOp, ev_sound hs hcur hx, Instr.next, getObj, setObj, Sem.run_bind, Sem.run, hb, Result.andThen, hp', if_false]
    rfl
theorem qt_runeStr (hT : TOk P T) {s t : TypeId} {x : Operand} {m : Int} {k : IntKind} (hs' : und T s = some (.int k)) (hu : und T t = some .string) (hx : ev σ δ cur x = some (.int k m)) :
    Qt P ro ⟨d, .convert s t x, ty, pos, aft, g⟩ σ δ cur M L (.string (Utf8.encode m)) :=
  qt_of_run (semAt_of (by intro c e; cases e)) fun a w hs hcur hp => by
    simp [execOp, convert, Conv.intToString, ev_sound hs hcur hx, run_und hT hs', run_und hT hu]
theorem qt_max2 {x y : Operand} {tys : Array TypeId} {k k' : IntKind} {m n : Int} (hx : ev σ δ cur x = some (.int k m)) (hy : ev σ δ cur y = some (.int k' n)) :
    Qt P ro ⟨d, .call ⟨.builtin .max, #[x, y], tys⟩, ty, pos, aft, g⟩ σ δ cur M L (.int k (if n > m then n else m)) :=
  qt_of_run (semAt_of (by intro c e; cases e)) fun a w hs hcur hp => by
    simp [execOp, resolve, invoke, builtin, Builtin.max_, Builtin.max2, ev_sound hs hcur hx, ev_sound hs hcur hy]
end
end Go.Chi
