import Derived.Test.YtehlgbbpjbgkaaaGreatDoorBCA
import Derived.Test.YtehlgbbpjbgkaaaGreatDoorBCD
set_option linter.all false
namespace Go.Proofs.YtehlgbbpjbgkaaaGreatDoor
open Go.Chi Go.Ev
variable {G : Nat} {M : Mem}
noncomputable def knownH (args : List Value) (H : Heap) (nx : Nat) : Option (Value × Heap × Nat) :=
  match args with
  | [.string s] => match s.data.toList == helloB.data.toList with
    | true => some (.agg ⟨msgC 6⟩, H, nx)
    | false => none
  | _ => none
noncomputable def known3 (f : FuncId) (args : List Value) (H : Heap) (nx : Nat) : Option (Value × Heap × Nat) :=
  match Nat.beq f 337 with
  | true => knownH args H nx
  | false => match memoGet f args memoT with
    | some v => some (v, H, nx)
    | none => known f args H nx
theorem known3_ok {N : HL} (hN : ∀ b o, M.blk b = some o ↔ (b, o) ∈ N) (hd : (N.map Prod.fst).Nodup) (hGT : GTok Tryz.prog 3 M gt) : KnownS Tryz.prog G M known3 := by
  intro f args H nx v H' nx' h h1 h2 h3
  unfold known3 at h
  split at h
  · rename_i hf
    have hf := Nat.eq_of_beq_eq_true hf
    subst hf
    unfold knownH at h
    split at h
    · rename_i s
      split at h
      · rename_i hs
        cases h
        have hs : s = helloB := by
          have := eq_of_beq hs
          obtain ⟨⟨l⟩⟩ := s
          exact congrArg (fun l : List UInt8 => (⟨⟨l⟩⟩ : ByteArray)) this
        subst hs
        refine ⟨⟨Sc.clo rfl, h2, Nat.le_refl _⟩, Tryz.call337, fun L r w hr => ?_⟩
        exact ((decode_ok hN hd hGT (lay r H ++ L)).2 w hr.hp).mono fun u w' ⟨M', L', q1, q2, q3, q4⟩ => by
          subst q3 q4
          exact ⟨r, .refl _ _, rel_of hr.ok q1, by rw [q2]; exact (cloV_ren rfl).symm⟩
      · cases h
    · cases h
  · split at h
    · rename_i u hm
      cases h
      obtain ⟨x, hx, rfl, rfl, rfl⟩ := memoGet_mem hm
      obtain ⟨m1, m2, m3, m4⟩ := memo_ok hN hd hGT x hx
      refine ⟨⟨fun r r' _ => by rw [m4, m4], h2, Nat.le_refl _⟩, m2, fun L r w hr => ?_⟩
      have hmap : x.2.1.map (ren r) = x.2.1 := by
        have : ∀ u ∈ x.2.1, ren r u = id u := fun u hu => cloV_ren (List.all_eq_true.1 m3 u hu)
        rw [List.map_congr_left this, List.map_id]
      rw [hmap]
      exact ((m1 (lay r H ++ L)).2 w hr.hp).mono fun u w' ⟨M', L', q1, q2, q3, q4⟩ => by
        subst q3 q4
        exact ⟨r, .refl _ _, rel_of hr.ok q1, by rw [q2, m4]⟩
    · exact known_ok hN hd f args H nx v H' nx' h h1 h2 h3
noncomputable def evC : Slf := evN Tryz.prog tt gt 3 known3 100000
set_option maxRecDepth 1000000 in
theorem alive_ev : isT (evC.call 6 [] .nil 3) = true := by decide +kernel
end Go.Proofs.YtehlgbbpjbgkaaaGreatDoor
