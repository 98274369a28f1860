import Derived.Test.YtemiflllckincaaLgW
namespace Go.Chi
section
variable {P : Program} {T : TT} {ro : Option Nat} {σ : Env} {δ : Den} {cur : Path} {M : Mem} {L : HL} {d : Option Nat} {ty : TypeId} {pos : String} {aft : Array Edge} {g : Option (Nat × Bool)}
theorem qt_strIndex (hT : TOk P T) {t : TypeId} {x y : Operand} {s : ByteArray} {k : IntKind} {n : Nat} {b : UInt8} (hu : und T t = some .string) (hx : ev σ δ cur x = some (.string s)) (hy : ev σ δ cur y = some (.int k (n : Int))) (hb : Hy σ δ cur → s[n]? = some b) :
    Qt P ro ⟨d, .index t x y, ty, pos, aft, g⟩ σ δ cur M L (.int .u8 (b.toNat : Int)) :=
  qt_of_run (semAt_of (by intro c e; cases e)) fun a w hs hcur hp => by
    have h := hb (Hy_of hs hcur)
    simp [execOp, Instr.index, ev_sound hs hcur hx, ev_sound hs hcur hy, asIntOf, run_und hT hu, h]
theorem qt_strLo (hT : TOk P T) {t : TypeId} {x y : Operand} {s : ByteArray} {k : IntKind} {n : Nat} (hu : und T t = some .string) (hx : ev σ δ cur x = some (.string s)) (hy : ev σ δ cur y = some (.int k (n : Int))) (hb : Hy σ δ cur → n ≤ s.size) :
    Qt P ro ⟨d, .slice t x (some y) none none, ty, pos, aft, g⟩ σ δ cur M L (.string (s.extract n s.size)) :=
  qt_of_run (semAt_of (by intro c e; cases e)) fun a w hs hcur hp => by
    have h := hb (Hy_of hs hcur)
    simp [execOp, Instr.sliceAt, Instr.slice, Instr.sliceBounds, Instr.sliceBound, ev_sound hs hcur hx, ev_sound hs hcur hy, asIntOf, run_und hT hu, h]
theorem qt_strHi (hT : TOk P T) {t : TypeId} {x y : Operand} {s : ByteArray} {k : IntKind} {n : Nat} (hu : und T t = some .string) (hx : ev σ δ cur x = some (.string s)) (hy : ev σ δ cur y = some (.int k (n : Int))) (hb : Hy σ δ cur → n ≤ s.size) :
    Qt P ro ⟨d, .slice t x none (some y) none, ty, pos, aft, g⟩ σ δ cur M L (.string (s.extract 0 n)) :=
  qt_of_run (semAt_of (by intro c e; cases e)) fun a w hs hcur hp => by
    have h := hb (Hy_of hs hcur)
    simp [execOp, Instr.sliceAt, Instr.slice, Instr.sliceBounds, Instr.sliceBound, ev_sound hs hcur hx, ev_sound hs hcur hy, asIntOf, run_und hT hu, h]
theorem qt_strMid (hT : TOk P T) {t : TypeId} {x y z : Operand} {s : ByteArray} {k k' : IntKind} {m n : Nat} (hu : und T t = some .string) (hx : ev σ δ cur x = some (.string s)) (hy : ev σ δ cur y = some (.int k (m : Int))) (hz : ev σ δ cur z = some (.int k' (n : Int))) (hb : Hy σ δ cur → m ≤ n ∧ n ≤ s.size) :
    Qt P ro ⟨d, .slice t x (some y) (some z) none, ty, pos, aft, g⟩ σ δ cur M L (.string (s.extract m n)) :=
  qt_of_run (semAt_of (by intro c e; cases e)) fun a w hs hcur hp => by
    have h := hb (Hy_of hs hcur)
    simp [execOp, Instr.sliceAt, Instr.slice, Instr.sliceBounds, Instr.sliceBound, ev_sound hs hcur hx, ev_sound hs hcur hy, ev_sound hs hcur hz, asIntOf, run_und hT hu, h]
end
end Go.Chi
