import Derived.Test.YtemiflllckincaaK8
import Derived.Test.YtemiflllckincaaLgQ
namespace Go.Proofs.Ytemiflllckincaa
open Go.Chi

/-! ### what was handed over, as data -/
section
variable {H : Type} {enc : TypeId × Value → H} {W : World} {cs : List Value}
theorem uInt : Try.prog.underlying 3 = some (.int .i64) := und_ok tok (t := 3) rfl
theorem uBool : Try.prog.underlying 4 = some .bool := und_ok tok (t := 4) rfl
theorem uU8 : Try.prog.underlying 5 = some (.int .u8) := und_ok tok (t := 5) rfl
theorem uStr : Try.prog.underlying 9 = some .string := und_ok tok (t := 9) rfl
theorem rd_tx (h : RD enc Try.prog W 24 cs) : ∃ t : Tx, cs = txC t := by
  obtain ⟨_, _, rfl, h0, _, _, rfl, h1, _, _, rfl, h2, rfl⟩ := h.struct (und_ok tok (t := 24) rfl) (by kernel_rfl)
  obtain ⟨a, rfl, _⟩ := h0.int uInt
  obtain ⟨b, rfl, _⟩ := h1.int uInt
  obtain ⟨c, rfl, _⟩ := h2.int uInt
  exact ⟨⟨a, b, c⟩, rfl⟩
theorem rd_mb (h : RD enc Try.prog W 49 cs) : ∃ m : Mb, cs = mbC m ∧ True := by
  obtain ⟨_, _, rfl, h0, _, _, rfl, h1, rfl⟩ := h.struct (und_ok tok (t := 49) rfl) (by kernel_rfl)
  obtain ⟨a, rfl, _⟩ := h0.int uInt
  obtain ⟨b, rfl, _⟩ := h1.string uStr
  exact ⟨⟨a, b⟩, rfl, trivial⟩
theorem rd_smb (h : RD enc Try.prog W 34 cs) : ∃ s : SMb, cs = [s.v] ∧ s.Ok (memOf W) := by
  obtain ⟨a, len, cap, ls, rfl, _, _, hs, hel⟩ := h.slice (und_ok tok (t := 34) rfl) (size := 2) (by kernel_rfl) (by omega)
  obtain ⟨xs, rfl, _⟩ := list_of (f := mbC) (Q := fun _ => True) fun c hc => rd_mb (hel c hc)
  exact ⟨⟨a, len, cap, xs⟩, rfl, hs⟩
theorem rd_st (h : RD enc Try.prog W 9 cs) : ∃ s : ByteArray, cs = stC s ∧ True := by
  obtain ⟨b, rfl, _⟩ := h.string uStr
  exact ⟨b, rfl, trivial⟩
theorem rd_sstr (h : RD enc Try.prog W 35 cs) : ∃ s : SStr, cs = [s.v] ∧ s.Ok (memOf W) := by
  obtain ⟨a, len, cap, ls, rfl, _, _, hs, hel⟩ := h.slice (und_ok tok (t := 35) rfl) (size := 1) (by kernel_rfl) (by omega)
  obtain ⟨xs, rfl, _⟩ := list_of (f := stC) (Q := fun _ => True) fun c hc => rd_st (hel c hc)
  exact ⟨⟨a, len, cap, xs⟩, rfl, hs⟩
theorem rd_rc (h : RD enc Try.prog W 37 cs) : ∃ r : Rc, cs = rcC r ∧ RcIn (memOf W) r := by
  obtain ⟨_, _, rfl, h0, _, _, rfl, h1, _, _, rfl, h2, _, _, rfl, h3, _, _, rfl, h4, _, _, rfl, h5, _, _, rfl, h6, _, _, rfl, h7, rfl⟩ := h.struct (und_ok tok (t := 37) rfl) (by kernel_rfl)
  obtain ⟨k, rfl, _⟩ := h0.int uU8
  obtain ⟨e, rfl, _⟩ := h1.int uInt
  obtain ⟨t, rfl⟩ := rd_tx h2
  obtain ⟨y, rfl⟩ := h3.bool uBool
  obtain ⟨a, rfl, _⟩ := h4.int uInt
  obtain ⟨m, rfl, hm⟩ := rd_smb h5
  obtain ⟨g, rfl, hg⟩ := rd_sstr h6
  obtain ⟨b, rfl, _⟩ := h7.string uStr
  exact ⟨⟨k, e, t, y, a, m, g, b⟩, rfl, hm, hg⟩
theorem rd_rcs (h : RD enc Try.prog W 22 cs) : ∃ a cap, ∃ xs : List Rc, cs = [.slice a xs.length cap] ∧ SlM (memOf W) 10 a xs.length (xs.map rcC) ∧ (∀ r ∈ xs, RcIn (memOf W) r) ∧ xs.length ≤ cap := by
  obtain ⟨a, len, cap, ls, rfl, hlc, _, hs, hel⟩ := h.slice (und_ok tok (t := 22) rfl) (size := 10) (by kernel_rfl) (by omega)
  obtain ⟨xs, rfl, hx⟩ := list_of (f := rcC) (Q := fun r => RcIn (memOf W) r) fun c hc => rd_rc (hel c hc)
  have hl : xs.length = len := by have := hs.1; simpa using this
  subst hl
  exact ⟨a, cap, xs, rfl, hs, hx, hlc⟩
end
theorem own : ownKnob Try.prog.godebug = none := by kernel_rfl
theorem laid : laidOutB Try.prog = true := by kernel_rfl
end Go.Proofs.Ytemiflllckincaa
