import Derived.Test.YtehlgbbpjbgkaaaGreatDoorBCA
import Derived.Test.YtehlgbbpjbgkaaaGreatDoorBCC
set_option linter.all false
namespace Go.Proofs.YtehlgbbpjbgkaaaGreatDoor
open Go.Chi Go.Ev
def mA0 : List Value := [.string ⟨⟨[0, 0, 0, 0, 0, 0, 0, 0, 0, 0, 0, 0, 0, 0, 0, 0, 0, 0, 0, 0, 0, 0, 0, 0, 0, 0, 0, 0, 0, 0, 0, 0]⟩⟩, .string ⟨⟨[1, 1]⟩⟩]
def mV0 : Value := .tuple ⟨[.string ⟨⟨[2, 1, 1, 5, 144, 128, 5, 5, 243, 105, 247, 98, 4, 214, 52, 32, 144, 238, 242, 130, 92, 93, 121, 206, 115, 0, 39, 20, 113, 170, 11, 174, 241, 82, 72]⟩⟩, .string ⟨⟨[5, 144, 128, 5, 5, 243, 105, 247, 98, 4, 214, 52, 32, 144, 238, 242, 130, 92, 93, 121, 206, 115, 0, 39, 20, 113, 170, 11, 174, 241, 82, 72]⟩⟩, .int .i64 0]⟩
def mA1 : List Value := [.string ⟨⟨[114, 8, 100, 3, 101, 110, 118, 100, 1, 0, 100, 1, 1, 100, 1, 1, 100, 1, 1, 100, 1, 1, 114, 1, 100, 5, 104, 101, 108, 108, 111, 109, 97, 5, 107, 47, 48, 47, 49, 114, 7, 100, 3, 101, 110, 118, 100, 1, 0, 100, 1, 1, 100, 1, 1, 100, 1, 1, 100, 1, 1, 114, 1, 100, 5, 104, 101, 108, 108, 111]⟩⟩]
def mV1 : Value := .tuple ⟨[.agg ⟨[.int .i64 0, .int .i64 1, .int .i64 1, .int .i64 1, .int .i64 1, .string ⟨⟨[114, 1, 100, 5, 104, 101, 108, 108, 111]⟩⟩, .string ⟨⟨[109, 97, 5, 107, 47, 48, 47, 49, 114, 7, 100, 3, 101, 110, 118, 100, 1, 0, 100, 1, 1, 100, 1, 1, 100, 1, 1, 100, 1, 1, 114, 1, 100, 5, 104, 101, 108, 108, 111]⟩⟩]⟩, .int .i64 0]⟩
def mA2 : List Value := [.string ⟨⟨[114, 8, 100, 3, 101, 110, 118, 100, 1, 1, 100, 1, 0, 100, 1, 1, 100, 1, 1, 100, 1, 1, 114, 1, 100, 5, 104, 101, 108, 108, 111, 109, 97, 5, 107, 47, 48, 47, 49, 114, 7, 100, 3, 101, 110, 118, 100, 1, 1, 100, 1, 0, 100, 1, 1, 100, 1, 1, 100, 1, 1, 114, 1, 100, 5, 104, 101, 108, 108, 111]⟩⟩]
def mV2 : Value := .tuple ⟨[.agg ⟨[.int .i64 1, .int .i64 0, .int .i64 1, .int .i64 1, .int .i64 1, .string ⟨⟨[114, 1, 100, 5, 104, 101, 108, 108, 111]⟩⟩, .string ⟨⟨[109, 97, 5, 107, 47, 48, 47, 49, 114, 7, 100, 3, 101, 110, 118, 100, 1, 1, 100, 1, 0, 100, 1, 1, 100, 1, 1, 100, 1, 1, 114, 1, 100, 5, 104, 101, 108, 108, 111]⟩⟩]⟩, .int .i64 0]⟩
def memoT : List (FuncId × List Value × Value) := [(167, mA0, mV0), (265, mA1, mV1), (265, mA2, mV2)]
def isV (v : Value) (x : Option (Value × Heap × Nat)) : Bool :=
  match x with
  | some (u, _, _) => veq u v
  | none => false
set_option maxRecDepth 1000000 in
theorem memo0_ev : isV mV0 (evS.call 167 mA0 .nil 3) = true := by decide +kernel
theorem mV0_ren {G : Nat} (r : Rn G) : ren r mV0 = mV0 := by simp [mV0, ren, renA_eq]
set_option maxRecDepth 1000000 in
theorem memo1_ev : isV mV1 (evS.call 265 mA1 .nil 3) = true := by decide +kernel
theorem mV1_ren {G : Nat} (r : Rn G) : ren r mV1 = mV1 := by simp [mV1, ren, renA_eq]
set_option maxRecDepth 1000000 in
theorem memo2_ev : isV mV2 (evS.call 265 mA2 .nil 3) = true := by decide +kernel
theorem mV2_ren {G : Nat} (r : Rn G) : ren r mV2 = mV2 := by simp [mV2, ren, renA_eq]
section
variable {M : Mem} {N : HL} (hN : ∀ b o, M.blk b = some o ↔ (b, o) ∈ N) (hd : (N.map Prod.fst).Nodup) (hGT : GTok Tryz.prog 3 M gt)
include hN hd hGT
theorem ev_quiet2 {f : FuncId} {args : List Value} {v : Value} (he : isV v (evS.call f args .nil 3) = true) (ha : args.all cloV = true) (hv : ∀ r : Rn 3, ren r v = v) (L : HL) : TrQ Tryz.prog f args M L v := by
  unfold isV at he
  split at he
  · rename_i u H nx hx
    have := veq_ok he
    subst this
    exact ev_rel hN hd hGT hx ha fun r w hr => ⟨M, L, hr.hp.dropAll, hv r, rfl, rfl⟩
  · cases he
theorem memo_ok : ∀ x ∈ memoT, (∀ L, TrQ Tryz.prog x.1 x.2.1 M L x.2.2) ∧ (∀ az w, (callFunc x.1 az).run Tryz.prog w = .ok (.enter x.1 az) w) ∧ x.2.1.all cloV = true ∧ ∀ (G : Nat) (r : Rn G), ren r x.2.2 = x.2.2 := by
  unfold memoT
  simp only [List.forall_mem_cons]
  exact ⟨⟨fun L => ev_quiet2 hN hd hGT memo0_ev rfl (fun r => mV0_ren r) L, Tryz.call167, rfl, fun _ r => mV0_ren r⟩, ⟨fun L => ev_quiet2 hN hd hGT memo1_ev rfl (fun r => mV1_ren r) L, Tryz.call265, rfl, fun _ r => mV1_ren r⟩, ⟨fun L => ev_quiet2 hN hd hGT memo2_ev rfl (fun r => mV2_ren r) L, Tryz.call265, rfl, fun _ r => mV2_ren r⟩, fun _ h => by cases h⟩
end
def memoGet (f : FuncId) (args : List Value) : List (FuncId × List Value × Value) → Option Value
  | [] => none
  | x :: l => match Nat.beq f x.1 with
    | true => match veqL veq args x.2.1 with
      | true => some x.2.2
      | false => memoGet f args l
    | false => memoGet f args l
theorem memoGet_mem {f : FuncId} {args : List Value} {v : Value} : ∀ {l : List (FuncId × List Value × Value)}, memoGet f args l = some v → ∃ x ∈ l, x.1 = f ∧ x.2.1 = args ∧ x.2.2 = v
  | [], h => by cases h
  | x :: l, h => by
    simp only [memoGet] at h
    split at h
    · rename_i hf
      split at h
      · rename_i ha
        cases h
        exact ⟨x, List.mem_cons_self, (Nat.eq_of_beq_eq_true hf).symm, (veqL_ok (fun _ _ h => veq_ok h) ha).symm, rfl⟩
      · obtain ⟨y, h1, h2⟩ := memoGet_mem h
        exact ⟨y, List.mem_cons_of_mem _ h1, h2⟩
    · obtain ⟨y, h1, h2⟩ := memoGet_mem h
      exact ⟨y, List.mem_cons_of_mem _ h1, h2⟩
end Go.Proofs.YtehlgbbpjbgkaaaGreatDoor
