import Derived.Test.YtehlgbbpjbgkaaaGreatDoorRows
import Derived.Test.YtehlgbbpjbgkaaaGreatDoorChecked
import Derived.SevenTiedAt
set_option linter.all false
namespace Go.Proofs.YtehlgbbpjbgkaaaGreatDoor
open Go

/-! ### the row starts no goroutine: no function of the translation has a go statement -/
theorem goesBy_of {P : Program} {c : OpenClaim} {f : FuncId} (hs : c.start = .entering) (hf : P.funcNamed c.func = some f) (h : ∀ (i : Nat) (fn : Func), P.funcs[i]? = some fn → fn.goes = false) : false = c.goesBy P := by
  unfold OpenClaim.goesBy Program.goesAt Program.goesFrom
  rw [hf, hs]
  simp only [Option.any_some, Bool.or_false]
  unfold Program.goes
  have h2 : P.funcs.any Func.goes = false := by
    rw [Array.any_eq_false]
    intro i hi hg
    have := h i P.funcs[i] (Array.getElem?_eq_getElem hi)
    rw [this] at hg
    cases hg
  have h1 : ∀ g : Nat, (P.funcs[g]?).any Func.goes = false := fun g => by
    cases hx : P.funcs[g]? with
    | none => rfl
    | some fn => exact h g fn hx
  rw [h2, Bool.and_false, Bool.or_false]
  simp only [h1]
  simp
noncomputable def goesAtB (i : Nat) : Bool := match Tryz.prog.funcs[i]? with | some fn => !fn.goes | none => true
theorem goes0 : (List.range' 0 150).all goesAtB = true := by decide +kernel
theorem goes1 : (List.range' 150 150).all goesAtB = true := by decide +kernel
theorem goes2 : (List.range' 300 150).all goesAtB = true := by decide +kernel
theorem goes3 : (List.range' 450 150).all goesAtB = true := by decide +kernel
theorem goesN : Nat.ble Tryz.prog.funcs.size 600 = true := by decide +kernel
set_option maxRecDepth 100000 in
theorem goes_all (i : Nat) (fn : Func) (h : Tryz.prog.funcs[i]? = some fn) : fn.goes = false := by
  have hi : i < 600 := Nat.lt_of_lt_of_le (Array.getElem?_eq_some_iff.1 h).1 (Nat.le_of_ble_eq_true goesN)
  have hb : goesAtB i = true := by
    rcases Nat.lt_or_ge i 150 with h1 | h1
    · exact List.all_eq_true.1 goes0 i (List.mem_range'_1.2 ⟨by omega, by omega⟩)
    rcases Nat.lt_or_ge i 300 with h2 | h2
    · exact List.all_eq_true.1 goes1 i (List.mem_range'_1.2 ⟨by omega, by omega⟩)
    rcases Nat.lt_or_ge i 450 with h3 | h3
    · exact List.all_eq_true.1 goes2 i (List.mem_range'_1.2 ⟨by omega, by omega⟩)
    · exact List.all_eq_true.1 goes3 i (List.mem_range'_1.2 ⟨by omega, by omega⟩)
  unfold goesAtB at hb
  rw [h] at hb
  simpa using hb
theorem jc_goes : false = OpenClaim.goesBy Rows.calmBoundsRow Tryz.prog := goesBy_of rfl (f := 3) (by kernel_rfl) goes_all
end Go.Proofs.YtehlgbbpjbgkaaaGreatDoor
