import Derived.Test.YtnpnchmogpfjbaaLgZ
import Derived.Laws.BytesString
namespace Go.Chi
/-- bytes, as a text -/
def bytesI (ns : List Int) : ByteArray := ns.foldl (fun r n => r.push (UInt8.ofNat n.toNat)) ByteArray.empty
section
variable {P : Program} {T : TT} {ro : Option Nat} {σ : Env} {δ : Den} {cur : Path} {M : Mem} {L : HL} {d : Option Nat} {ty : TypeId} {pos : String} {aft : Array Edge} {g : Option (Nat × Bool)} {v : Value}
theorem _root_.Go.Chi.Qt.as {o : Oper} {v' : Value} (h : Qt P ro o σ δ cur M L v) (e : v = v') : Qt P ro o σ δ cur M L v' := e ▸ h
theorem qt_bytesStr (hT : TOk P T) {s t e : TypeId} {x : Operand} {b n c : Nat} (ns : List Int) (hs' : und T s = some (.slice e)) (he : und T e = some (.int .u8)) (hu : und T t = some .string) (hx : ev σ δ cur x = some (.slice (some ⟨b, 0, none⟩) n c)) (hc : Cells M L b 0 (ns.map (Value.int .u8))) (hl : ns.length = n) :
    Qt P ro ⟨d, .convert s t x, ty, pos, aft, g⟩ σ δ cur M L (.string (bytesI ns)) :=
  qt_of_run (semAt_of (by intro c e; cases e)) fun a w hs hcur hp => by
    have h1 := run_loadCells (P := P) hp (ns.map (Value.int .u8)) [] (by simpa using hc)
    have h2 : (loadCells ⟨b, 0, none⟩ n).run P w = .ok (ns.map (Value.int .u8)).toArray w := by
      simp only [List.length_nil, List.nil_append, List.length_map, hl] at h1
      exact h1
    have h3 := run_bytesToString w ⟨b, 0, none⟩ n c ns h2
    have h4 := run_convert_bytes_string (P := P) w s t e (some ⟨b, 0, none⟩) n c (und_ok hT hs') (und_ok hT he) (und_ok hT hu)
    simp only [execOp, ev_sound hs hcur hx, Sem.run_bind, h4, h3, Result.andThen_ok, Sem.run_pure]
    rfl
theorem qt_concat {t u : TypeId} {x y : Operand} {a b : ByteArray} (hx : ev σ δ cur x = some (.string a)) (hy : ev σ δ cur y = some (.string b)) (hsz : a.size + b.size < 4611686018427387904) :
    Qt P ro ⟨d, .binOp .add t x y u, ty, pos, aft, g⟩ σ δ cur M L (.string (a ++ b)) :=
  qt_of_run (semAt_of (by intro c e; cases e)) fun act w hs hcur hp => by
    have hn : ¬ ((a.size + b.size : Nat) : Int) > IntKind.i64.max := by
      have : IntKind.i64.max = 9223372036854775807 := by decide
      omega
    simp only [execOp, eqGuard, binOp, ev_sound hs hcur hx, ev_sound hs hcur hy, Op.stringOp, hn, if_false]
    simp
end
end Go.Chi
