import Derived.Test.YtemiflllckincaaLgN
namespace Go.Chi

/-- the order of what is ours does not matter -/
theorem Tr.perm {P : Program} {f : FuncId} {args : List Value} {M : Mem} {L L1 : HL} {K K1 : Value → Mem → HL → Prop} (h : Tr P f args M L1 K1) (hp : L.Perm L1) (hk : ∀ v M' L1', K1 v M' L1' → ∃ L', L1'.Perm L' ∧ K v M' L') : Tr P f args M L K :=
  ⟨h.1, fun w hw => (h.2 w (hw.perm hp)).mono fun v w' ⟨M', L', hp', hK⟩ => by
    obtain ⟨L2, h1, h2⟩ := hk v M' L' hK
    exact ⟨M', L2, hp'.perm h1, h2⟩⟩
/-- what turns one block, wherever it stands -/
theorem Tr.upd {P : Program} {f : FuncId} {args : List Value} {M : Mem} {L L' : HL} {b : Nat} {o o' : Obj} (h : ∀ L0, Tr P f args M ((b, o) :: L0) (fun _ M' L1 => M = M' ∧ L1 = (b, o') :: L0)) (hu : Upd L b o o' L') :
    Tr P f args M L (fun _ M' L1 => M = M' ∧ L1 = L') := by
  obtain ⟨A, B, rfl, rfl⟩ := hu
  refine (h (A ++ B)).perm List.perm_middle ?_
  rintro v M' _ ⟨rfl, rfl⟩
  exact ⟨_, List.perm_middle.symm, rfl, rfl⟩
theorem permMid (A N B : HL) : (A ++ (N ++ B)).Perm (N ++ (A ++ B)) := by
  rw [← List.append_assoc, ← List.append_assoc]
  exact List.Perm.append_right B List.perm_append_comm
theorem pm1 (x : Nat × Obj) (N B : HL) : (x :: (N ++ B)).Perm (N ++ (x :: B)) := permMid [x] N B
theorem pm2 (x y : Nat × Obj) (N B : HL) : (x :: y :: (N ++ B)).Perm (N ++ (x :: y :: B)) := permMid [x, y] N B
theorem pm3 (x y z : Nat × Obj) (N B : HL) : (x :: y :: z :: (N ++ B)).Perm (N ++ (x :: y :: z :: B)) := permMid [x, y, z] N B
theorem pm4 (x y z u : Nat × Obj) (N B : HL) : (x :: y :: z :: u :: (N ++ B)).Perm (N ++ (x :: y :: z :: u :: B)) := permMid [x, y, z, u] N B
theorem pm5 (x y z u v : Nat × Obj) (N B : HL) : (x :: y :: z :: u :: v :: (N ++ B)).Perm (N ++ (x :: y :: z :: u :: v :: B)) := permMid [x, y, z, u, v] N B
theorem pm6 (x y z u v a : Nat × Obj) (N B : HL) : (x :: y :: z :: u :: v :: a :: (N ++ B)).Perm (N ++ (x :: y :: z :: u :: v :: a :: B)) := permMid [x, y, z, u, v, a] N B
/-- a block of ours is given up, wherever it stands -/
theorem Hp.freezeN {M : Mem} {L : HL} {w : World} (h : Hp M L w) (n : Nat) {b : Nat} {o : Obj} (hn : L[n]? = some (b, o)) : ∃ M', M.le M' ∧ M'.blk b = some o ∧ Hp M' (L.eraseIdx n) w := by
  obtain ⟨hlt, he⟩ := List.getElem?_eq_some_iff.1 hn
  have hL : L = L.take n ++ (b, o) :: L.drop (n + 1) := by rw [← he, List.getElem_cons_drop, List.take_append_drop]
  rw [List.eraseIdx_eq_take_drop_succ]
  exact h.freezeU hL
theorem run_frz {P : Program} {C : Cx} {n : Nat} {k : List Item} {ds : List Deferred} {σ : Env} {M : Mem} {L : HL} (j : Nat) {b : Nat} {o : Obj} (hn : L[j]? = some (b, o)) (h : ∀ M', M.le M' → M'.blk b = some o → Run P C n k ds σ M' (L.eraseIdx j)) : Run P C n k ds σ M L :=
  fun a w h1 h2 h3 h4 => by
    obtain ⟨M', h5, h6, h7⟩ := h4.freezeN j hn
    exact h M' h5 h6 a w h1 h2 h3 h7
theorem runL_frz {P : Program} {C : Cx} {n : Nat} {k : List Item} {ds : List Deferred} {σ : Env} {δ : Den} {ops : Array Oper} {l : List Oper} {M : Mem} {L : HL} (j : Nat) {b : Nat} {o : Obj} (hn : L[j]? = some (b, o)) (h : ∀ M', M.le M' → M'.blk b = some o → RunL P C n ops l k ds σ δ M' (L.eraseIdx j)) : RunL P C n ops l k ds σ δ M L :=
  fun a w idx h1 h2 h3 h4 h5 => by
    obtain ⟨M', h6, h7, h8⟩ := h4.freezeN j hn
    exact h M' h6 h7 a w idx h1 h2 h3 h8 h5
theorem SlM.ofBlk {M : Mem} {b e size : Nat} {ls : List (List Value)} {cs : List Value} (h : M.blk b = some (.cells ⟨cs⟩ e (0, 0))) (hcs : cs = ls.flatten) (hsz : ∀ l ∈ ls, l.length = size) : SlM M size (some ⟨b, 0, none⟩) ls.length ls :=
  ⟨rfl, hsz, .inr ⟨b, 0, rfl, fun i c hc => ⟨⟨cs⟩, e, (0, 0), .inr h, fun j v hv => by
    have := flat_at hsz hc hv
    rw [← hcs] at this
    simpa using this⟩⟩⟩
section
variable {P : Program} {C : Cx} {n : Nat} {k : List Item} {ds : List Deferred} {σ : Env} {δ : Den} {M : Mem} {L : HL} {ops : Array Oper} {X : List Nat}
/-- an operation that turns memory, in the order of the text, while some that only read are still open -/
theorem prn_o1 {i d : Nat} {op : Op} {ty : TypeId} {pos : String} {aft : Array Edge} {K : Value → Mem → HL → Prop} (ho : ops[i]? = some ⟨some d, op, ty, pos, aft, none⟩)
    (hst : St P C.b.roundOf ⟨some d, op, ty, pos, aft, none⟩ σ δ [] M L K) (hchk : (acyc ops && chkC ops (dn i) [i] && chkE1 ops (dn i) i) = true) (hd : Nat.blt d n = true) (hn : lkd δ d = none) (hu : unNamed δ d = true)
    (h : ∀ v M' L', K v M' L' → PendAll P C.b.roundOf ops σ δ M' L' (open_ ops (dn i) X i) ∧ PR P C n ops k ds (dn (i + 1)) (i :: X) ((d, v) :: σ) δ M' L') : PR P C n ops k ds (dn i) X σ δ M L := by
  rw [Bool.and_eq_true] at hchk
  exact pr_one i hchk.1 (eff1 i ho hst hchk.2 rfl hd hn hu h)
theorem prn_o0 {i : Nat} {op : Op} {ty : TypeId} {pos : String} {aft : Array Edge} {K : Value → Mem → HL → Prop} (ho : ops[i]? = some ⟨none, op, ty, pos, aft, none⟩)
    (hst : St P C.b.roundOf ⟨none, op, ty, pos, aft, none⟩ σ δ [] M L K) (hchk : (acyc ops && chkC ops (dn i) [i] && chkE1 ops (dn i) i) = true)
    (h : ∀ v M' L', K v M' L' → PendAll P C.b.roundOf ops σ δ M' L' (open_ ops (dn i) X i) ∧ PR P C n ops k ds (dn (i + 1)) (i :: X) σ δ M' L') : PR P C n ops k ds (dn i) X σ δ M L := by
  rw [Bool.and_eq_true] at hchk
  exact pr_one i hchk.1 (eff0 i ho hst hchk.2 rfl h)
end
end Go.Chi
