import Derived.Test.YtoldbfndmaglmaaGreatDoorBNA
import Derived.Test.YtoldbfndmaglmaaGreatDoorBNC
set_option linter.all false
namespace Go.Proofs.YtoldbfndmaglmaaGreatDoor
open Go.Chi Go.Ev
def shaK : List Nat := [1116352408, 1899447441, 3049323471, 3921009573, 961987163, 1508970993, 2453635748, 2870763221, 3624381080, 310598401, 607225278, 1426881987, 1925078388, 2162078206, 2614888103, 3248222580, 3835390401, 4022224774, 264347078, 604807628, 770255983, 1249150122, 1555081692, 1996064986, 2554220882, 2821834349, 2952996808, 3210313671, 3336571891, 3584528711, 113926993, 338241895, 666307205, 773529912, 1294757372, 1396182291, 1695183700, 1986661051, 2177026350, 2456956037, 2730485921, 2820302411, 3259730800, 3345764771, 3516065817, 3600352804, 4094571909, 275423344, 430227734, 506948616, 659060556, 883997877, 958139571, 1322822218, 1537002063, 1747873779, 1955562222, 2024104815, 2227730452, 2361852424, 2428436474, 2756734187, 3204031479, 3329325298]
noncomputable def gt : Bt NObj := ((Bt.nil : Bt NObj).put (.cells [.string ⟨⟨[]⟩⟩, .string ⟨⟨[107]⟩⟩, .string ⟨⟨[115]⟩⟩] 350 none) 0).put (.cells (shaK.map fun n => .int .u32 (.ofNat n)) 378 none) 1
noncomputable def evS : Slf := evN Tryz.prog tt gt 3 known 100000
def isT : Option (Value × Heap × Nat) → Bool
  | some (.bool true, _, _) => true
  | _ => false
theorem isT_ok {x : Option (Value × Heap × Nat)} (h : isT x = true) : ∃ H nx, x = some (.bool true, H, nx) := by
  unfold isT at h
  split at h
  · exact ⟨_, _, rfl⟩
  · cases h
set_option maxRecDepth 1000000 in
theorem alive_ev : isT (evS.call 10 [] .nil 3) = true := by decide +kernel
end Go.Proofs.YtoldbfndmaglmaaGreatDoor
