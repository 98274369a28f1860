import Derived.Test.YtemiflllckincaaLgK
namespace Go.Chi

section
variable {P : Program} {T : TT} {ro : Option Nat} {σ : Env} {δ : Den} {cur : Path} {M : Mem} {L : HL} {d : Option Nat} {op : Op} {ty : TypeId} {pos : String} {aft : Array Edge} {g : Option (Nat × Bool)} {v : Value}

/-- a byte of a string -/
theorem qt_strAt (hT : TOk P T) {t : TypeId} {x y : Operand} {s : ByteArray} {k : IntKind} {n : Int}
    (hx : ev σ δ cur x = some (.string s)) (hy : ev σ δ cur y = some (.int k n)) (hu : und T t = some .string) (hb : Hy σ δ cur → 0 ≤ n ∧ n < s.size) :
    Qt P ro ⟨d, .index t x y, ty, pos, aft, g⟩ σ δ cur M L (.int .u8 ((s.get! n.toNat).toNat : Int)) :=
  qt_of_run (semAt_of (by intro c e; cases e)) fun a w hs hcur hp => by
    have h := hb (Hy_of hs hcur)
    have hlt : n.toNat < s.size := by omega
    have e : (if 0 ≤ n then s[n.toNat]? else none) = some (s.get! n.toNat) := by
      rw [if_pos h.1]
      rw [getElem?_pos s n.toNat hlt]
      congr 1
      show s.get _ _ = _
      simp [ByteArray.get!, ByteArray.get, hlt, getElem!_pos]
    simp [execOp, Instr.index, ev_sound hs hcur hx, ev_sound hs hcur hy, asIntOf, run_und hT hu, e]

/-- xs stands in cs from off on -/
def SegAt (cs : List Value) (off : Nat) (xs : List Value) : Prop := ∀ i v, xs[i]? = some v → cs[off + i]? = some v
theorem SegAt.mid (pre x post : List Value) : SegAt (pre ++ (x ++ post)) pre.length x := fun i v h => by
  have hi := (List.getElem?_eq_some_iff.1 h).1
  rw [List.getElem?_append_right (by omega), List.getElem?_append_left (by omega)]
  simpa using h
theorem qt_ldC (hT : TOk P T) {t : TypeId} {x : Operand} {b off k : Nat} {cs : List Value} (hx : ev σ δ cur x = some (.pointer (some ⟨b, off + k, none⟩))) (hc' : Cells M L b off cs) (hv : ldE T t cs k = some v) :
    Qt P ro ⟨d, .load t x, ty, pos, aft, g⟩ σ δ cur M L v :=
  qt_of_run (semAt_of (by intro c e; cases e)) fun a w hs hcur hp => by
    have : (loadVar t ⟨b, off + k, none⟩).run P w = .ok v w := by
      unfold ldE partL at hv
      split at hv
      · rename_i ha
        split at hv
        · rename_i s hs
          split at hv
          · rename_i vs hvs
            cases hv
            obtain ⟨rfl, hle⟩ := segE_ok hvs
            refine run_loadVarA hT hp ha hs hc'.sub ?_
            simp [seg]; omega
          · cases hv
        · cases hv
      · rename_i ha
        exact run_loadVar1 hT hp ha (hc'.one hv)
      · cases hv
    simp [execOp, Instr.loadAt, ev_sound hs hcur hx, Instr.sureAddr, this]
/-- a part of a block of ours -/
theorem qt_ldB (hT : TOk P T) {t : TypeId} {x : Operand} {b off k : Nat} {cs xs : List Value} {et : TypeId} {fz : Nat × Nat} (hx : ev σ δ cur x = some (.pointer (some ⟨b, off + k, none⟩))) (hs : SegAt cs off xs) (hm : (b, Obj.cells ⟨cs⟩ et fz) ∈ L) (hv : ldE T t xs k = some v) :
    Qt P ro ⟨d, .load t x, ty, pos, aft, g⟩ σ δ cur M L v := qt_ldC hT hx ⟨⟨cs⟩, et, fz, .inl hm, fun i u hu => by simpa using hs i u hu⟩ hv
theorem qt_ldB0 (hT : TOk P T) {t : TypeId} {x : Operand} {b off : Nat} {cs xs : List Value} {et : TypeId} {fz : Nat × Nat} (hx : ev σ δ cur x = some (.pointer (some ⟨b, off, none⟩))) (hs : SegAt cs off xs) (hm : (b, Obj.cells ⟨cs⟩ et fz) ∈ L) (hv : ldE T t xs 0 = some v) :
    Qt P ro ⟨d, .load t x, ty, pos, aft, g⟩ σ δ cur M L v := qt_ldB (k := 0) hT hx hs hm hv
end

/-! ### a part in the midst of a block's cells -/
theorem putE_of : ∀ {vs cs : List Value}, vs.length ≤ cs.length → putE vs cs = some (vs ++ cs.drop vs.length)
  | [], cs, _ => by simp [putE]
  | v :: vs, c :: cs, h => by simp [putE, putE_of (vs := vs) (cs := cs) (by simpa using h)]
  | _ :: _, [], h => by simp at h
theorem setE_of : ∀ {cs : List Value} {off : Nat} {vs : List Value}, off + vs.length ≤ cs.length → setE cs off vs = some (setSeg cs off vs)
  | cs, 0, vs, h => by
    unfold setE
    split
    · rename_i hn
      have hn := Nat.eq_of_beq_eq_true hn
      simp [setSeg, hn]
    · rw [putE_of (by omega)]; simp [setSeg]
  | c :: cs, k + 1, vs, h => by
    unfold setE
    rw [setE_of (cs := cs) (off := k) (by simp at h; omega)]
    have : k + 1 + vs.length = (k + vs.length) + 1 := by omega
    simp [setSeg, this]
  | [], k + 1, vs, h => by simp at h
theorem setE_mid {pre x x' post vs : List Value} {j : Nat} (h : setE x j vs = some x') : setE (pre ++ (x ++ post)) (pre.length + j) vs = some (pre ++ (x' ++ post)) := by
  obtain ⟨rfl, hle⟩ := setE_ok h
  rw [setE_of (by simp; omega)]
  simp only [setSeg]
  congr 1
  rw [List.take_length_add_append, Nat.add_assoc, List.drop_length_add_append, List.take_append_of_le_length (by omega), List.drop_append_of_le_length hle]
  simp
end Go.Chi
