import Derived.Test.YtcolmljidbbbbaaB1
import Derived.Test.YtcolmljidbbbbaaW6
namespace Go.Proofs.Ytcolmljidbbbbaa
open Go.Chi
theorem evs_in {M : Mem} {s : SEv} (h : s.Ok M) : EvsIn M s := ⟨h.1, fun x hx => (h.2 x hx).2⟩
theorem cells_slice {v : Value} {s : SEv} (h : v.cells.toList = [s.v]) (hv : ∃ a l c, v = .slice a l c) : v = s.v := by
  obtain ⟨a, l, c, rfl⟩ := hv
  simpa [Value.cells] using h
end Go.Proofs.Ytcolmljidbbbbaa
