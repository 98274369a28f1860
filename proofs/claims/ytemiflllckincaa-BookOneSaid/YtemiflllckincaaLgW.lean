import Derived.Test.YtemiflllckincaaLgV
namespace Go.Chi
section
variable {P : Program} {T : TT} {ro : Option Nat} {σ : Env} {δ : Den} {cur : Path} {M : Mem} {L : HL} {d : Option Nat} {ty : TypeId} {pos : String} {aft : Array Edge} {g : Option (Nat × Bool)} {v : Value}
theorem qt_makeIface (hT : TOk P T) {t : TypeId} {x : Operand} {fs : Array Field} (hu : und T t = some (.struct fs)) (hx : ev σ δ cur x = some v) :
    Qt P ro ⟨d, .makeInterface t x, ty, pos, aft, g⟩ σ δ cur M L (.iface t v) :=
  qt_of_run (semAt_of (by intro c e; cases e)) fun a w hs hcur hp => by
    simp [execOp, Instr.makeInterface, ev_sound hs hcur hx, run_und hT hu]
theorem qt_assertIs (hT : TOk P T) {s t : TypeId} {x : Operand} {fs : Array Field} (hu : und T t = some (.struct fs)) (hx : ev σ δ cur x = some (.iface t v)) :
    Qt P ro ⟨d, .typeAssert x s t true, ty, pos, aft, g⟩ σ δ cur M L (.tuple ⟨[v, .bool true]⟩) :=
  qt_of_run (semAt_of (by intro c e; cases e)) fun a w hs hcur hp => by
    simp [execOp, Instr.typeAssert, ev_sound hs hcur hx, run_und hT hu]
theorem run_underlying {s : TypeId} {u : TypeDesc} (hu : P.underlying s = some u) (w : World) : (underlying s).run P w = .ok u w := by
  simp [underlying, hu]
theorem eq_nil {s t : TypeId} {ms : Array (String × TypeId)} (hu : P.underlying s = some (.interface ms)) (w : World) : (Op.equal s (.iface t v) .nilIface).run P w = .ok false w := by
  obtain ⟨k, hk⟩ : ∃ k, Op.maxDepth = k + 1 := ⟨_, rfl⟩
  rw [Op.equal, hk]
  simp only [Op.equalIn, Sem.run_bind, run_underlying hu, Result.andThen_ok, Sem.run_pure]
theorem eq_nil0 {s : TypeId} {ms : Array (String × TypeId)} (hu : P.underlying s = some (.interface ms)) (w : World) : (Op.equal s .nilIface .nilIface).run P w = .ok true w := by
  obtain ⟨k, hk⟩ : ∃ k, Op.maxDepth = k + 1 := ⟨_, rfl⟩
  rw [Op.equal, hk]
  simp only [Op.equalIn, Sem.run_bind, run_underlying hu, Result.andThen_ok, Sem.run_pure]
theorem qt_neNil {s t u : TypeId} {x : Operand} {ms : Array (String × TypeId)} (hu : P.underlying s = some (.interface ms)) (hx : ev σ δ cur x = some (.iface t v)) :
    Qt P ro ⟨d, .binOp .neq s x (.const .nilIface) u, ty, pos, aft, g⟩ σ δ cur M L (.bool true) :=
  qt_of_run (semAt_of (by intro c e; cases e)) fun a w hs hcur hp => by
    have hy : a.eval (.const .nilIface) = .nilIface := rfl
    simp [execOp, eqGuard, binOp, ev_sound hs hcur hx, hy, eq_nil hu]
theorem qt_neNil0 {s u : TypeId} {x : Operand} {ms : Array (String × TypeId)} (hu : P.underlying s = some (.interface ms)) (hx : ev σ δ cur x = some .nilIface) :
    Qt P ro ⟨d, .binOp .neq s x (.const .nilIface) u, ty, pos, aft, g⟩ σ δ cur M L (.bool false) :=
  qt_of_run (semAt_of (by intro c e; cases e)) fun a w hs hcur hp => by
    have hy : a.eval (.const .nilIface) = .nilIface := rfl
    simp [execOp, eqGuard, binOp, ev_sound hs hcur hx, hy, eq_nil0 hu]
end
end Go.Chi
