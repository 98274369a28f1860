import Derived.Test.YtnpnchmogpfjbaaN8
import Derived.Test.YtnpnchmogpfjbaaLgQ
namespace Go.Proofs.Ytnpnchmogpfjbaa
open Go.Chi

/-! ### what was handed over, as data -/
section
variable {H : Type} {enc : TypeId × Value → H} {W : World} {cs : List Value}
theorem uInt : Try.prog.underlying 3 = some (.int .i64) := und_ok tok (t := 3) rfl
theorem uBool : Try.prog.underlying 4 = some .bool := und_ok tok (t := 4) rfl
theorem uStr : Try.prog.underlying 9 = some .string := und_ok tok (t := 9) rfl
theorem rd_po (h : RD enc Try.prog W 23 cs) : ∃ p : Po, cs = poC p ∧ p.env.size ≤ maxLen := by
  obtain ⟨_, _, rfl, h0, _, _, rfl, h1, _, _, rfl, h2, rfl⟩ := h.struct (und_ok tok (t := 23) rfl) (by kernel_rfl)
  obtain ⟨a, rfl, _⟩ := h0.int uInt
  obtain ⟨b, rfl, _⟩ := h1.int uInt
  obtain ⟨c, rfl, hc⟩ := h2.string uStr
  exact ⟨⟨a, b, c⟩, rfl, hc⟩
theorem rd_pos (h : RD enc Try.prog W 35 cs) : ∃ a cap, ∃ xs : List Po, cs = [.slice a xs.length cap] ∧ SlM (memOf W) 3 a xs.length (xs.map poC) := by
  obtain ⟨a, len, cap, ls, rfl, hlc, _, hs, hel⟩ := h.slice (und_ok tok (t := 35) rfl) (size := 3) (by kernel_rfl) (by omega)
  obtain ⟨xs, rfl, hx⟩ := list_of (f := poC) (Q := fun p => p.env.size ≤ maxLen) fun c hc => rd_po (hel c hc)
  have hl : xs.length = len := by have := hs.1; simpa using this
  subst hl
  exact ⟨a, cap, xs, rfl, hs⟩
end
theorem own : ownKnob Try.prog.godebug = none := by kernel_rfl
theorem laid : laidOutB Try.prog = true := by kernel_rfl
end Go.Proofs.Ytnpnchmogpfjbaa
