import Derived.Test.YtemiflllckincaaLgO
namespace Go.Chi

/-! ### a part of a slice -/
def subA (size : Nat) (a : Option Addr) (cap l : Nat) : Option Addr := if cap = l then a else a.map (·.add (l * size))
section
variable {P : Program} {T : TT} {ro : Option Nat} {σ : Env} {δ : Den} {cur : Path} {M : Mem} {L : HL} {d : Option Nat} {op : Op} {ty : TypeId} {pos : String} {aft : Array Edge} {g : Option (Nat × Bool)} {v : Value}
theorem qt_sliceHi (hT : TOk P T) {t : TypeId} {x y : Operand} {a : Option Addr} {len cap : Nat} {k : IntKind} {n : Nat} {e s : Nat}
    (hx : ev σ δ cur x = some (.slice a len cap)) (hy : ev σ δ cur y = some (.int k (n : Int))) (hu : und T t = some (.slice e)) (hi : sizeT T e = some s) (hb : Hy σ δ cur → n ≤ cap) :
    Qt P ro ⟨d, .slice t x none (some y) none, ty, pos, aft, g⟩ σ δ cur M L (.slice (subA s a cap 0) n cap) :=
  qt_of_run (semAt_of (by intro c e; cases e)) fun act w hs hcur hp => by
    have h := hb (Hy_of hs hcur)
    simp [execOp, Instr.sliceAt, Instr.slice, Instr.sliceBounds, Instr.sliceBound, ev_sound hs hcur hx, ev_sound hs hcur hy, asIntOf, run_und hT hu, run_sizeT hT hi, h, subA]
theorem qt_sliceLo (hT : TOk P T) {t : TypeId} {x y : Operand} {a : Option Addr} {len cap : Nat} {k : IntKind} {n : Nat} {e s : Nat}
    (hx : ev σ δ cur x = some (.slice a len cap)) (hy : ev σ δ cur y = some (.int k (n : Int))) (hu : und T t = some (.slice e)) (hi : sizeT T e = some s) (hb : Hy σ δ cur → n ≤ len) :
    Qt P ro ⟨d, .slice t x (some y) none none, ty, pos, aft, g⟩ σ δ cur M L (.slice (subA s a cap n) (len - n) (cap - n)) :=
  qt_of_run (semAt_of (by intro c e; cases e)) fun act w hs hcur hp => by
    have h := hb (Hy_of hs hcur)
    simp [execOp, Instr.sliceAt, Instr.slice, Instr.sliceBounds, Instr.sliceBound, ev_sound hs hcur hx, ev_sound hs hcur hy, asIntOf, run_und hT hu, run_sizeT hT hi, h, subA]
end
theorem SlM.sub {M : Mem} {size : Nat} {a : Option Addr} {len cap : Nat} {ls : List (List Value)} (h : SlM M size a len ls) {l k : Nat} (hk : k ≤ len) (hc : len ≤ cap) : SlM M size (subA size a cap l) (k - l) ((ls.take k).drop l) := by
  obtain ⟨h1, h2, h3⟩ := h
  refine ⟨by simp; omega, fun x hx => h2 x (List.mem_of_mem_take (List.mem_of_mem_drop hx)), ?_⟩
  by_cases hlt : l < k
  · rcases h3 with rfl | ⟨b, off, rfl, hcell⟩
    · simp
    · refine .inr ⟨b, off + l * size, ?_, fun i c hi => ?_⟩
      · simp [subA, show ¬ cap = l from by omega, add_none]
      · rw [List.getElem?_drop, List.getElem?_take] at hi
        split at hi
        · have := hcell _ _ hi
          rw [Nat.add_mul] at this
          simpa [Nat.add_assoc] using this
        · cases hi
  · left
    apply List.drop_eq_nil_of_le
    simp
    omega
end Go.Chi
