import Derived.Test.YtkokdpkmnjedfaaTy
import Derived.Test.YtkokdpkmnjedfaaLgQ
namespace Go.Proofs.Ytkokdpkmnjedfaa
open Go.Chi

/-! ### what was handed over, as data -/
section
variable {H : Type} {enc : TypeId × Value → H} {W : World} {cs : List Value}
theorem uInt : Try.prog.underlying 3 = some (.int .i64) := und_ok tok (t := 3) rfl
theorem uBool : Try.prog.underlying 4 = some .bool := und_ok tok (t := 4) rfl
theorem uU8 : Try.prog.underlying 5 = some (.int .u8) := und_ok tok (t := 5) rfl
theorem uStr : Try.prog.underlying 9 = some .string := und_ok tok (t := 9) rfl
theorem rd_tx (h : RD enc Try.prog W 24 cs) : ∃ t : Tx, cs = txC t := by
  obtain ⟨_, _, rfl, h0, _, _, rfl, h1, _, _, rfl, h2, rfl⟩ := h.struct (und_ok tok (t := 24) rfl) (by kernel_rfl)
  obtain ⟨a, rfl, _⟩ := h0.int uInt
  obtain ⟨b, rfl, _⟩ := h1.int uInt
  obtain ⟨c, rfl, _⟩ := h2.int uInt
  exact ⟨⟨a, b, c⟩, rfl⟩
theorem rd_mb (h : RD enc Try.prog W 42 cs) : ∃ m : Mb, cs = mbC m ∧ True := by
  obtain ⟨_, _, rfl, h0, _, _, rfl, h1, rfl⟩ := h.struct (und_ok tok (t := 42) rfl) (by kernel_rfl)
  obtain ⟨a, rfl, _⟩ := h0.int uInt
  obtain ⟨b, rfl, _⟩ := h1.string uStr
  exact ⟨⟨a, b⟩, rfl, trivial⟩
theorem rd_smb (h : RD enc Try.prog W 33 cs) : ∃ s : SMb, cs = [s.v] ∧ s.Ok (memOf W) := by
  obtain ⟨a, len, cap, ls, rfl, _, _, hs, hel⟩ := h.slice (und_ok tok (t := 33) rfl) (size := 2) (by kernel_rfl) (by omega)
  obtain ⟨xs, rfl, _⟩ := list_of (f := mbC) (Q := fun _ => True) fun c hc => rd_mb (hel c hc)
  exact ⟨⟨a, len, cap, xs⟩, rfl, hs⟩
theorem rd_sstr (h : RD enc Try.prog W 34 cs) : ∃ s : SStr, cs = [s.v] := by
  obtain ⟨a, len, cap, ls, rfl, _, _, hs, hel⟩ := h.slice (und_ok tok (t := 34) rfl) (size := 1) (by kernel_rfl) (by omega)
  exact ⟨⟨a, len, cap, []⟩, rfl⟩
theorem rd_rc (h : RD enc Try.prog W 36 cs) : ∃ r : Rc, cs = rcC r ∧ r.mem.Ok (memOf W) := by
  obtain ⟨_, _, rfl, h0, _, _, rfl, h1, _, _, rfl, h2, _, _, rfl, h3, _, _, rfl, h4, _, _, rfl, h5, _, _, rfl, h6, _, _, rfl, h7, rfl⟩ := h.struct (und_ok tok (t := 36) rfl) (by kernel_rfl)
  obtain ⟨k, rfl, _⟩ := h0.int uU8
  obtain ⟨e, rfl, _⟩ := h1.int uInt
  obtain ⟨t, rfl⟩ := rd_tx h2
  obtain ⟨y, rfl⟩ := h3.bool uBool
  obtain ⟨a, rfl, _⟩ := h4.int uInt
  obtain ⟨m, rfl, hm⟩ := rd_smb h5
  obtain ⟨g, rfl⟩ := rd_sstr h6
  obtain ⟨b, rfl, _⟩ := h7.string uStr
  exact ⟨⟨k, e, t, y, a, m, g, b⟩, rfl, hm⟩
theorem rd_rp (h : RD enc Try.prog W 38 cs) : ∃ r : Rp, cs = rpC r ∧ r.mem.Ok (memOf W) := by
  obtain ⟨_, _, rfl, h0, _, _, rfl, h1, _, _, rfl, h2, _, _, rfl, h3, rfl⟩ := h.struct (und_ok tok (t := 38) rfl) (by kernel_rfl)
  obtain ⟨t, rfl⟩ := rd_tx h0
  obtain ⟨a, rfl, _⟩ := h1.int uInt
  obtain ⟨m, rfl, hm⟩ := rd_smb h2
  obtain ⟨g, rfl⟩ := rd_sstr h3
  exact ⟨⟨t, a, m, g⟩, rfl, hm⟩
theorem rd_ev (h : RD enc Try.prog W 40 cs) : ∃ x : Ev, cs = evC x ∧ x.Ok (memOf W) := by
  obtain ⟨_, _, rfl, h0, _, _, rfl, h1, _, _, rfl, h2, _, _, rfl, h3, _, _, rfl, h4, _, _, rfl, h5, rfl⟩ := h.struct (und_ok tok (t := 40) rfl) (by kernel_rfl)
  obtain ⟨k, rfl, _⟩ := h0.int uU8
  obtain ⟨a, rfl, _⟩ := h1.int uInt
  obtain ⟨o, rfl, _⟩ := h2.int uInt
  obtain ⟨t, rfl⟩ := rd_tx h3
  obtain ⟨r, rfl, hr⟩ := rd_rc h4
  obtain ⟨p, rfl, hp⟩ := rd_rp h5
  exact ⟨⟨k, a, o, t, r, p⟩, rfl, hr, hp⟩
theorem rd_evs (h : RD enc Try.prog W 22 cs) : ∃ s : SEv, cs = [s.v] ∧ s.Ok (memOf W) ∧ s.len ≤ s.cap := by
  obtain ⟨a, len, cap, ls, rfl, hlc, _, hs, hel⟩ := h.slice (und_ok tok (t := 22) rfl) (size := 22) (by kernel_rfl) (by omega)
  obtain ⟨xs, rfl, hx⟩ := list_of (f := evC) (Q := fun x => x.Ok (memOf W)) fun c hc => rd_ev (hel c hc)
  exact ⟨⟨a, len, cap, xs⟩, rfl, ⟨hs, hx⟩, hlc⟩
end
theorem own : ownKnob Try.prog.godebug = none := by kernel_rfl
theorem laid : laidOutB Try.prog = true := by kernel_rfl
theorem cells_slice {v : Value} {s : SEv} (h : v.cells.toList = [s.v]) (hv : ∃ a l c, v = .slice a l c) : v = s.v := by
  obtain ⟨a, l, c, rfl⟩ := hv
  simpa [Value.cells] using h
end Go.Proofs.Ytkokdpkmnjedfaa
