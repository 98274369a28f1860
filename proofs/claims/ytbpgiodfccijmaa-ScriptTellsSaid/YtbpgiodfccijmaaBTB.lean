import Derived.Test.YtbpgiodfccijmaaBTA
import Derived.Test.YtbpgiodfccijmaaRows
import Derived.ChangeBook
import Derived.ChangeSame
import Derived.ChangeArms
import Derived.Deep.Slices
import Derived.JoinedOf
import Derived.OpenShut
import Derived.Handed
import Derived.RangeFuncLeaves
import Derived.RangeFuncRecord
import Derived.Recover
import Derived.Laws.Runes
import Derived.Laws.RangeAny
import Derived.Laws.BytesString
namespace Go.Chi

/-! ### an own slice's elements -/
theorem flat_at {size : Nat} : ∀ {ls : List (List Value)} (_ : ∀ l ∈ ls, l.length = size) {i j : Nat} {c : List Value} {u : Value}, ls[i]? = some c → c[j]? = some u → ls.flatten[i * size + j]? = some u
  | [], _, i, j, c, u, hc, _ => by simp at hc
  | l :: ls, hsz, i, j, c, u, hc, hu => by
    have h5 := hsz l (by simp)
    rw [List.flatten_cons]
    cases i with
    | zero =>
      simp at hc; subst hc
      have := (List.getElem?_eq_some_iff.1 hu).1
      rw [List.getElem?_append_left (by omega)]; simpa using hu
    | succ i =>
      rw [List.getElem?_append_right (by rw [Nat.add_mul]; omega)]
      have : (i + 1) * size + j - l.length = i * size + j := by rw [Nat.add_mul]; omega
      rw [this]
      exact flat_at (fun x hx => hsz x (List.mem_cons_of_mem _ hx)) (by simpa using hc) hu
theorem OS.at_ {e size : Nat} {v : Value} {n : Nat} {ls : List (List Value)} {N : HL} (h : OS e size v n ls.flatten N) (hsz : ∀ l ∈ ls, l.length = size) (hl : ls.length = n) {k : Nat} {c : List Value} (hk : ls[k]? = some c) :
    ∃ b cap cs, v = .slice (some ⟨b, 0, none⟩) n cap ∧ N = [(b, .cells ⟨cs⟩ e (0, 0))] ∧ cs.length = cap * size ∧ n ≤ cap ∧ SegAt cs (0 + k * size) c := by
  have hkl : k < n := by have := (List.getElem?_eq_some_iff.1 hk).1; omega
  rcases h with ⟨_, rfl, _, _⟩ | ⟨b, cap, cs, rfl, rfl, hle, hcl, hxs⟩
  · omega
  · refine ⟨b, cap, cs, rfl, rfl, hcl, hle, fun j u hu => ?_⟩
    have key := flat_at hsz hk hu
    have hj : j < size := by
      have := hsz c (List.mem_of_getElem? hk)
      have := (List.getElem?_eq_some_iff.1 hu).1
      omega
    have hlt : k * size + j < n * size := by
      have : (k + 1) * size ≤ n * size := Nat.mul_le_mul_right _ (by omega)
      rw [Nat.add_mul] at this; omega
    rw [← hxs, List.getElem?_take, if_pos hlt] at key
    simpa using key
/-- one element of it stands between the others -/
theorem OS.mid {e size : Nat} {v : Value} {n : Nat} {ls : List (List Value)} {N : HL} (h : OS e size v n ls.flatten N) (hsz : ∀ l ∈ ls, l.length = size) (hl : ls.length = n) {k : Nat} {c : List Value} (hk : ls[k]? = some c) :
    ∃ b cap pre post, v = .slice (some ⟨b, 0, none⟩) n cap ∧ N = [(b, .cells ⟨pre ++ (c ++ post)⟩ e (0, 0))] ∧ pre.length = k * size ∧
      ∀ c', c'.length = size → OS e size v n (ls.set k c').flatten [(b, .cells ⟨pre ++ (c' ++ post)⟩ e (0, 0))] := by
  have hkl : k < ls.length := (List.getElem?_eq_some_iff.1 hk).1
  have hck : ls[k] = c := by rw [List.getElem?_eq_getElem hkl] at hk; exact Option.some.inj hk
  have flen : ∀ (l : List (List Value)), (∀ x ∈ l, x.length = size) → l.flatten.length = l.length * size := by
    intro l hl'
    induction l with
    | nil => simp
    | cons x l ih => rw [List.flatten_cons, List.length_append, hl' x (by simp), ih (fun y hy => hl' y (List.mem_cons_of_mem _ hy)), List.length_cons, Nat.add_mul]; omega
  rcases h with ⟨_, rfl, _, _⟩ | ⟨b, cap, cs, rfl, rfl, hle, hcl, hxs⟩
  · omega
  · have hsp : ls = ls.take k ++ (c :: ls.drop (k + 1)) := by rw [← hck, List.getElem_cons_drop, List.take_append_drop]
    have hfl : ls.flatten = (ls.take k).flatten ++ (c ++ (ls.drop (k + 1)).flatten) := by
      conv => lhs; rw [hsp]
      simp
    have hcs : cs = ls.flatten ++ cs.drop (n * size) := by rw [← hxs, List.take_append_drop]
    refine ⟨b, cap, (ls.take k).flatten, (ls.drop (k + 1)).flatten ++ cs.drop (n * size), rfl, ?_, ?_, fun c' hc' => ?_⟩
    · rw [hfl] at hcs
      simp only [List.append_assoc] at hcs
      rw [← hcs]
    · rw [flen _ (fun x hx => hsz x (List.mem_of_mem_take hx)), List.length_take, Nat.min_eq_left (by omega)]
    · refine .inr ⟨b, cap, _, rfl, rfl, hle, ?_, ?_⟩
      · have h1 := congrArg List.length hcs
        rw [hfl] at h1
        have h2 := hsz c (List.mem_of_getElem? hk)
        simp only [List.length_append] at h1 ⊢
        omega
      · have hset : ls.set k c' = ls.take k ++ (c' :: ls.drop (k + 1)) := List.set_eq_take_append_cons_drop.trans (if_pos hkl)
        have hf2 : (ls.set k c').flatten = (ls.take k).flatten ++ (c' ++ (ls.drop (k + 1)).flatten) := by rw [hset]; simp
        have hall : ∀ x ∈ ls.set k c', x.length = size := fun x hx => by
          rcases List.mem_or_eq_of_mem_set hx with hx | rfl
          · exact hsz x hx
          · exact hc'
        have hl2 := flen _ hall
        rw [List.length_set, hl] at hl2
        rw [show (ls.take k).flatten ++ (c' ++ ((ls.drop (k + 1)).flatten ++ cs.drop (n * size))) = (ls.set k c').flatten ++ cs.drop (n * size) from by rw [hf2]; simp]
        rw [← hl2, List.take_left']
        rfl
theorem swap2 (x y : Nat × Obj) (L : HL) : (x :: y :: L).Perm (y :: x :: L) := List.Perm.swap y x L
end Go.Chi
namespace Go.Chi

/-- the order of what is ours does not matter -/
theorem Tr.perm {P : Program} {f : FuncId} {args : List Value} {M : Mem} {L L1 : HL} {K K1 : Value → Mem → HL → Prop} (h : Tr P f args M L1 K1) (hp : L.Perm L1) (hk : ∀ v M' L1', K1 v M' L1' → ∃ L', L1'.Perm L' ∧ K v M' L') : Tr P f args M L K :=
  ⟨h.1, fun w hw => (h.2 w (hw.perm hp)).mono fun v w' ⟨M', L', hp', hK⟩ => by
    obtain ⟨L2, h1, h2⟩ := hk v M' L' hK
    exact ⟨M', L2, hp'.perm h1, h2⟩⟩
/-- what turns one block, wherever it stands -/
theorem Tr.upd {P : Program} {f : FuncId} {args : List Value} {M : Mem} {L L' : HL} {b : Nat} {o o' : Obj} (h : ∀ L0, Tr P f args M ((b, o) :: L0) (fun _ M' L1 => M = M' ∧ L1 = (b, o') :: L0)) (hu : Upd L b o o' L') :
    Tr P f args M L (fun _ M' L1 => M = M' ∧ L1 = L') := by
  obtain ⟨A, B, rfl, rfl⟩ := hu
  refine (h (A ++ B)).perm List.perm_middle ?_
  rintro v M' _ ⟨rfl, rfl⟩
  exact ⟨_, List.perm_middle.symm, rfl, rfl⟩
theorem permMid (A N B : HL) : (A ++ (N ++ B)).Perm (N ++ (A ++ B)) := by
  rw [← List.append_assoc, ← List.append_assoc]
  exact List.Perm.append_right B List.perm_append_comm
theorem pm1 (x : Nat × Obj) (N B : HL) : (x :: (N ++ B)).Perm (N ++ (x :: B)) := permMid [x] N B
theorem pm2 (x y : Nat × Obj) (N B : HL) : (x :: y :: (N ++ B)).Perm (N ++ (x :: y :: B)) := permMid [x, y] N B
theorem pm3 (x y z : Nat × Obj) (N B : HL) : (x :: y :: z :: (N ++ B)).Perm (N ++ (x :: y :: z :: B)) := permMid [x, y, z] N B
theorem pm4 (x y z u : Nat × Obj) (N B : HL) : (x :: y :: z :: u :: (N ++ B)).Perm (N ++ (x :: y :: z :: u :: B)) := permMid [x, y, z, u] N B
theorem pm5 (x y z u v : Nat × Obj) (N B : HL) : (x :: y :: z :: u :: v :: (N ++ B)).Perm (N ++ (x :: y :: z :: u :: v :: B)) := permMid [x, y, z, u, v] N B
theorem pm6 (x y z u v a : Nat × Obj) (N B : HL) : (x :: y :: z :: u :: v :: a :: (N ++ B)).Perm (N ++ (x :: y :: z :: u :: v :: a :: B)) := permMid [x, y, z, u, v, a] N B
/-- a block of ours is given up, wherever it stands -/
theorem Hp.freezeN {M : Mem} {L : HL} {w : World} (h : Hp M L w) (n : Nat) {b : Nat} {o : Obj} (hn : L[n]? = some (b, o)) : ∃ M', M.le M' ∧ M'.blk b = some o ∧ Hp M' (L.eraseIdx n) w := by
  obtain ⟨hlt, he⟩ := List.getElem?_eq_some_iff.1 hn
  have hL : L = L.take n ++ (b, o) :: L.drop (n + 1) := by rw [← he, List.getElem_cons_drop, List.take_append_drop]
  rw [List.eraseIdx_eq_take_drop_succ]
  exact h.freezeU hL
theorem run_frz {P : Program} {C : Cx} {n : Nat} {k : List Item} {ds : List Deferred} {σ : Env} {M : Mem} {L : HL} (j : Nat) {b : Nat} {o : Obj} (hn : L[j]? = some (b, o)) (h : ∀ M', M.le M' → M'.blk b = some o → Run P C n k ds σ M' (L.eraseIdx j)) : Run P C n k ds σ M L :=
  fun a w h1 h2 h3 h4 => by
    obtain ⟨M', h5, h6, h7⟩ := h4.freezeN j hn
    exact h M' h5 h6 a w h1 h2 h3 h7
theorem runL_frz {P : Program} {C : Cx} {n : Nat} {k : List Item} {ds : List Deferred} {σ : Env} {δ : Den} {ops : Array Oper} {l : List Oper} {M : Mem} {L : HL} (j : Nat) {b : Nat} {o : Obj} (hn : L[j]? = some (b, o)) (h : ∀ M', M.le M' → M'.blk b = some o → RunL P C n ops l k ds σ δ M' (L.eraseIdx j)) : RunL P C n ops l k ds σ δ M L :=
  fun a w idx h1 h2 h3 h4 h5 => by
    obtain ⟨M', h6, h7, h8⟩ := h4.freezeN j hn
    exact h M' h6 h7 a w idx h1 h2 h3 h8 h5
theorem SlM.ofBlk {M : Mem} {b e size : Nat} {ls : List (List Value)} {cs : List Value} (h : M.blk b = some (.cells ⟨cs⟩ e (0, 0))) (hcs : cs = ls.flatten) (hsz : ∀ l ∈ ls, l.length = size) : SlM M size (some ⟨b, 0, none⟩) ls.length ls :=
  ⟨rfl, hsz, .inr ⟨b, 0, rfl, fun i c hc => ⟨⟨cs⟩, e, (0, 0), .inr h, fun j v hv => by
    have := flat_at hsz hc hv
    rw [← hcs] at this
    simpa using this⟩⟩⟩
section
variable {P : Program} {C : Cx} {n : Nat} {k : List Item} {ds : List Deferred} {σ : Env} {δ : Den} {M : Mem} {L : HL} {ops : Array Oper} {X : List Nat}
/-- an operation that turns memory, in the order of the text, while some that only read are still open -/
theorem prn_o1 {i d : Nat} {op : Op} {ty : TypeId} {pos : String} {aft : Array Edge} {K : Value → Mem → HL → Prop} (ho : ops[i]? = some ⟨some d, op, ty, pos, aft, none⟩)
    (hst : St P C.b.roundOf ⟨some d, op, ty, pos, aft, none⟩ σ δ [] M L K) (hchk : (acyc ops && chkC ops (dn i) [i] && chkE1 ops (dn i) i) = true) (hd : Nat.blt d n = true) (hn : lkd δ d = none) (hu : unNamed δ d = true)
    (h : ∀ v M' L', K v M' L' → PendAll P C.b.roundOf ops σ δ M' L' (open_ ops (dn i) X i) ∧ PR P C n ops k ds (dn (i + 1)) (i :: X) ((d, v) :: σ) δ M' L') : PR P C n ops k ds (dn i) X σ δ M L := by
  rw [Bool.and_eq_true] at hchk
  exact pr_one i hchk.1 (eff1 i ho hst hchk.2 rfl hd hn hu h)
theorem prn_o0 {i : Nat} {op : Op} {ty : TypeId} {pos : String} {aft : Array Edge} {K : Value → Mem → HL → Prop} (ho : ops[i]? = some ⟨none, op, ty, pos, aft, none⟩)
    (hst : St P C.b.roundOf ⟨none, op, ty, pos, aft, none⟩ σ δ [] M L K) (hchk : (acyc ops && chkC ops (dn i) [i] && chkE1 ops (dn i) i) = true)
    (h : ∀ v M' L', K v M' L' → PendAll P C.b.roundOf ops σ δ M' L' (open_ ops (dn i) X i) ∧ PR P C n ops k ds (dn (i + 1)) (i :: X) σ δ M' L') : PR P C n ops k ds (dn i) X σ δ M L := by
  rw [Bool.and_eq_true] at hchk
  exact pr_one i hchk.1 (eff0 i ho hst hchk.2 rfl h)
end
end Go.Chi
namespace Go.Chi
section
variable {P : Program} {T : TT} {ro : Option Nat} {σ : Env} {δ : Den} {cur : Path} {M : Mem} {L : HL} {d : Option Nat} {op : Op} {ty : TypeId} {pos : String} {aft : Array Edge} {g : Option (Nat × Bool)} {v : Value}
/-- qt_ld, st_store and resL with their own searches -/
theorem ql (hT : TOk P T) {t : TypeId} {x : Operand} {b off : Nat} {cs : List Value} {et : TypeId} {fz : Nat × Nat} (hx : ev σ δ cur x = some (.pointer (some ⟨b, off, none⟩))) (hm : (b, Obj.cells ⟨cs⟩ et fz) ∈ L := by (repeat (first | with_reducible apply List.mem_cons_self | with_reducible assumption | with_reducible apply List.mem_cons_of_mem | with_reducible apply List.mem_append_right))) (hv : ldE T t cs off = some v := by rfl) :
    Qt P ro ⟨d, .load t x, ty, pos, aft, g⟩ σ δ cur M L v := qt_ld hT hx hm hv
theorem sst (hT : TOk P T) {t : TypeId} {x y : Operand} {b off s : Nat} {cs cs' : List Value} {et : TypeId} {L' : HL}
    (hx : ev σ δ cur x = some (.pointer (some ⟨b, off, none⟩))) (hy : ev σ δ cur y = some v) (hi : sizeT T t = some s) (hl : (cellsL v).length = s) (h1 : oneL (cellsL v) = true)
    (hu : Upd L b (.cells ⟨cs⟩ et (0, 0)) (.cells ⟨cs'⟩ et (0, 0)) L' := by (repeat (first | with_reducible apply Upd.here | with_reducible apply Upd.there | with_reducible apply Upd.append_left))) (hcs : setE cs off (cellsL v) = some cs' := by rfl) :
    St P ro ⟨d, .store t x y, ty, pos, aft, g⟩ σ δ cur M L (fun v' M' L'' => v' = undef ∧ M = M' ∧ L'' = L') := st_store hT hx hy hi hl h1 hu hcs
end
theorem rl {P : Program} {T : TT} {σ : Env} {M : Mem} {L : HL} {a b off t : Nat} {v : Value} {rs : List ResultVar} {vs : List Value} (hT : TOk P T) {cs : List Value} {et : TypeId} {fz : Nat × Nat} (h : lks σ a = some (.pointer (some ⟨b, off, none⟩))) (r : ResOk P M L σ rs vs) (hm : (b, Obj.cells ⟨cs⟩ et fz) ∈ L := by (repeat (first | with_reducible apply List.mem_cons_self | with_reducible assumption | with_reducible apply List.mem_cons_of_mem | with_reducible apply List.mem_append_right))) (hv : ldE T t cs off = some v := by rfl) : ResOk P M L σ (.cell a t :: rs) (v :: vs) := resL hT h hm hv r
end Go.Chi
namespace Go.Chi
/-! ### short forms of the walk's steps: what evaluation shows is shown of itself -/
section
variable {P : Program} {C : Cx} {n : Nat} {k : List Item} {ds : List Deferred} {σ : Env} {δ : Den} {M : Mem} {L : HL} {ops : Array Oper} {X : List Nat}
theorem rq {d : Nat} {op : Op} {ty : TypeId} {pos : String} {aft : Array Edge} {l : List Oper} {v : Value}
    (hst : Qt P C.b.roundOf ⟨some d, op, ty, pos, aft, none⟩ σ δ [] M L v) (h : RunL P C n ops l k ds ((d, v) :: σ) δ M L)
    (hd : Nat.blt d n = true := by exact rfl) (hn : lkd δ d = none := by exact rfl) (hu : unNamed δ d = true := by exact rfl) : RunL P C n ops (⟨some d, op, ty, pos, aft, none⟩ :: l) k ds σ δ M L :=
  runL_q hst hd hn hu h
theorem rg {d : Nat} {op : Op} {ty : TypeId} {pos : String} {aft : Array Edge} {l : List Oper} {v : Value} {j s : Nat} {want c : Bool} {p : Path}
    (hj : slotOf ops j = some s) (hg : lkg σ δ s = some (p, .bool c))
    (hst : Qt P C.b.roundOf ⟨some d, op, ty, pos, aft, some (j, want)⟩ σ δ ((s, want) :: p) M L v)
    (h : RunL P C n ops l k ds σ ((d, (s, want) :: p, v) :: δ) M L)
    (hd : Nat.blt d n = true := by exact rfl) (hn : lkd δ d = none := by exact rfl) (hsd : lks σ d = none := by exact rfl) (hu : unNamed δ d = true := by exact rfl) (hp : unP ((s, want) :: p) d = true := by exact rfl) : RunL P C n ops (⟨some d, op, ty, pos, aft, some (j, want)⟩ :: l) k ds σ δ M L :=
  runL_g hj hg hst hd hn hsd hu hp h
theorem ro {d : Nat} {op : Op} {ty : TypeId} {pos : String} {aft : Array Edge} {l : List Oper} {K : Value → Mem → HL → Prop}
    (hst : St P C.b.roundOf ⟨some d, op, ty, pos, aft, none⟩ σ δ [] M L K)
    (h : ∀ v M' L', K v M' L' → RunL P C n ops l k ds ((d, v) :: σ) δ M' L')
    (hd : Nat.blt d n = true := by exact rfl) (hn : lkd δ d = none := by exact rfl) (hu : unNamed δ d = true := by exact rfl) : RunL P C n ops (⟨some d, op, ty, pos, aft, none⟩ :: l) k ds σ δ M L :=
  runL_op hst hd hn hu h
theorem pq {i d : Nat} {op : Op} {ty : TypeId} {pos : String} {aft : Array Edge} {v : Value} (ho : ops[i]? = some ⟨some d, op, ty, pos, aft, none⟩)
    (hq : Qt P C.b.roundOf ⟨some d, op, ty, pos, aft, none⟩ σ δ [] M L v)
    (h : PR P C n ops k ds (dn (i + 1)) X ((d, v) :: σ) δ M L)
    (hchk : chkQ ops (dn i) i = true := by decide +kernel) (hd : Nat.blt d n = true := by exact rfl) (hn : lkd δ d = none := by exact rfl) (hu : unNamed δ d = true := by exact rfl) : PR P C n ops k ds (dn i) X σ δ M L := prn_q ho hq hchk hd hn hu h
theorem pg {i d : Nat} {op : Op} {ty : TypeId} {pos : String} {aft : Array Edge} {v : Value} {j s : Nat} {want c : Bool} {p : Path} (ho : ops[i]? = some ⟨some d, op, ty, pos, aft, some (j, want)⟩)
    (hj : slotOf ops j = some s) (hg : lkg σ δ s = some (p, .bool c))
    (hq : Qt P C.b.roundOf ⟨some d, op, ty, pos, aft, some (j, want)⟩ σ δ ((s, want) :: p) M L v)
    (h : PR P C n ops k ds (dn (i + 1)) X σ ((d, (s, want) :: p, v) :: δ) M L)
    (hchk : chkQ ops (dn i) i = true := by decide +kernel) (hd : Nat.blt d n = true := by exact rfl) (hn : lkd δ d = none := by exact rfl) (hsd : lks σ d = none := by exact rfl) (hu : unNamed δ d = true := by exact rfl) (hp : unP ((s, want) :: p) d = true := by exact rfl) : PR P C n ops k ds (dn i) X σ δ M L := prn_g ho hj hg hq hchk hd hn hsd hu hp h
theorem pe {i d : Nat} {op : Op} {ty : TypeId} {pos : String} {aft : Array Edge} {K : Value → Mem → HL → Prop} (ho : ops[i]? = some ⟨some d, op, ty, pos, aft, none⟩)
    (hst : St P C.b.roundOf ⟨some d, op, ty, pos, aft, none⟩ σ δ [] M L K)
    (h : ∀ v M' L', K v M' L' → PR P C n ops k ds (dn (i + 1)) (i :: X) ((d, v) :: σ) δ M' L')
    (hchk : (chkE ops (dn i) i && acyc ops && (open_ ops (dn i) X i).isEmpty) = true := by decide +kernel) (hd : Nat.blt d n = true := by exact rfl) (hn : lkd δ d = none := by exact rfl) (hu : unNamed δ d = true := by exact rfl) : PR P C n ops k ds (dn i) X σ δ M L := prn_e1 ho hst hchk hd hn hu h
theorem po {i d : Nat} {op : Op} {ty : TypeId} {pos : String} {aft : Array Edge} {K : Value → Mem → HL → Prop} (ho : ops[i]? = some ⟨some d, op, ty, pos, aft, none⟩)
    (hst : St P C.b.roundOf ⟨some d, op, ty, pos, aft, none⟩ σ δ [] M L K)
    (h : ∀ v M' L', K v M' L' → PendAll P C.b.roundOf ops σ δ M' L' (open_ ops (dn i) X i) ∧ PR P C n ops k ds (dn (i + 1)) (i :: X) ((d, v) :: σ) δ M' L')
    (hchk : (acyc ops && chkC ops (dn i) [i] && chkE1 ops (dn i) i) = true := by decide +kernel) (hd : Nat.blt d n = true := by exact rfl) (hn : lkd δ d = none := by exact rfl) (hu : unNamed δ d = true := by exact rfl) : PR P C n ops k ds (dn i) X σ δ M L := prn_o1 ho hst hchk hd hn hu h
end
abbrev cS := @run_seq
abbrev cR := @run_region
abbrev cN := @runL_nil
abbrev cK := @run_skip
abbrev cB := @run_block
abbrev cI := @run_inBlock
abbrev cE := @run_exit
end Go.Chi
namespace Go.Chi

/-! ### the program's data -/
structure Tx where
  coord : Int
  epoch : Int
  seq : Int
theorem Tx.ext_iff' (a b : Tx) : (a.coord = b.coord ∧ a.epoch = b.epoch ∧ a.seq = b.seq) ↔ a = b := by cases a; cases b; simp
instance : DecidableEq Tx := fun a b => decidable_of_iff _ (Tx.ext_iff' a b)
def txC (t : Tx) : List Value := [.int .i64 t.coord, .int .i64 t.epoch, .int .i64 t.seq]

structure Mb where
  org : Int
  digest : ByteArray
theorem Mb.ext_iff' (a b : Mb) : (a.org = b.org ∧ a.digest = b.digest) ↔ a = b := by cases a; cases b; simp
instance : DecidableEq Mb := fun a b => decidable_of_iff _ (Mb.ext_iff' a b)
def mbC (m : Mb) : List Value := [.int .i64 m.org, .string m.digest]

/-- a slice of members: its header, and what it holds -/
structure SMb where
  a : Option Addr
  len : Nat
  cap : Nat
  xs : List Mb
def SMb.v (s : SMb) : Value := .slice s.a s.len s.cap
def SMb.Ok (M : Mem) (s : SMb) : Prop := SlM M 2 s.a s.len (s.xs.map mbC)
/-- a slice of strings -/
structure SStr where
  a : Option Addr
  len : Nat
  cap : Nat
  xs : List ByteArray
def SStr.v (s : SStr) : Value := .slice s.a s.len s.cap
def SStr.Ok (M : Mem) (s : SStr) : Prop := SlM M 1 s.a s.len (s.xs.map fun x => [.string x])

structure Rc where
  kind : Int
  epoch : Int
  txn : Tx
  yes : Bool
  auditor : Int
  mem : SMb
  tags : SStr
  body : ByteArray
def rcC (r : Rc) : List Value := [.int .u8 r.kind, .int .i64 r.epoch, .int .i64 r.txn.coord, .int .i64 r.txn.epoch, .int .i64 r.txn.seq, .bool r.yes, .int .i64 r.auditor, r.mem.v, r.tags.v, .string r.body]
structure Rp where
  txn : Tx
  auditor : Int
  mem : SMb
  tags : SStr
def rpC (r : Rp) : List Value := [.int .i64 r.txn.coord, .int .i64 r.txn.epoch, .int .i64 r.txn.seq, .int .i64 r.auditor, r.mem.v, r.tags.v]
structure Ev where
  kind : Int
  act : Int
  org : Int
  txn : Tx
  rcd : Rc
  rcpt : Rp
def evC (x : Ev) : List Value := [.int .u8 x.kind, .int .i64 x.act, .int .i64 x.org, .int .i64 x.txn.coord, .int .i64 x.txn.epoch, .int .i64 x.txn.seq,
  .int .u8 x.rcd.kind, .int .i64 x.rcd.epoch, .int .i64 x.rcd.txn.coord, .int .i64 x.rcd.txn.epoch, .int .i64 x.rcd.txn.seq, .bool x.rcd.yes, .int .i64 x.rcd.auditor, x.rcd.mem.v, x.rcd.tags.v, .string x.rcd.body,
  .int .i64 x.rcpt.txn.coord, .int .i64 x.rcpt.txn.epoch, .int .i64 x.rcpt.txn.seq, .int .i64 x.rcpt.auditor, x.rcpt.mem.v, x.rcpt.tags.v]
def Ev.Ok (M : Mem) (x : Ev) : Prop := x.rcd.mem.Ok M ∧ x.rcpt.mem.Ok M
structure SEv where
  a : Option Addr
  len : Nat
  cap : Nat
  xs : List Ev
def SEv.v (s : SEv) : Value := .slice s.a s.len s.cap
def SEv.Ok (M : Mem) (s : SEv) : Prop := SlM M 22 s.a s.len (s.xs.map evC) ∧ ∀ x ∈ s.xs, x.Ok M

structure Ac where
  kind : Int
  txn : Tx
  org : Int
  yes : Bool
  orgs : Int
def acC (x : Ac) : List Value := [.int .u8 x.kind, .int .i64 x.txn.coord, .int .i64 x.txn.epoch, .int .i64 x.txn.seq, .int .i64 x.org, .bool x.yes, .int .u8 x.orgs]
theorem Ac.ext_iff' (a b : Ac) : (a.kind = b.kind ∧ a.txn = b.txn ∧ a.org = b.org ∧ a.yes = b.yes ∧ a.orgs = b.orgs) ↔ a = b := by cases a; cases b; simp
instance : DecidableEq Ac := fun a b => decidable_of_iff _ (Ac.ext_iff' a b)
structure Lr where
  txn : Tx
  begun : Bool
  orgs : Int
  voted : Int
  yes : Int
  decided : Bool
  commit : Bool
  learnt : Int
def lrC (x : Lr) : List Value := [.int .i64 x.txn.coord, .int .i64 x.txn.epoch, .int .i64 x.txn.seq, .bool x.begun, .int .u8 x.orgs, .int .u8 x.voted, .int .u8 x.yes, .bool x.decided, .bool x.commit, .int .u8 x.learnt]
theorem Lr.ext_iff' (a b : Lr) : (a.txn = b.txn ∧ a.begun = b.begun ∧ a.orgs = b.orgs ∧ a.voted = b.voted ∧ a.yes = b.yes ∧ a.decided = b.decided ∧ a.commit = b.commit ∧ a.learnt = b.learnt) ↔ a = b := by cases a; cases b; simp
instance : DecidableEq Lr := fun a b => decidable_of_iff _ (Lr.ext_iff' a b)

end Go.Chi
namespace Go.Proofs.Ytbpgiodfccijmaa
open Go.Chi
noncomputable def tt : TT := [(3, Try.t3), (4, Try.t4), (9, Try.t9), (26, Try.t26), (5, Try.t5), (37, Try.t37), (22, Try.t22), (94, Try.t94), (49, Try.t49), (51, Try.t51), (35, Try.t35), (32, Try.t32), (78, Try.t78), (65, Try.t65), (59, Try.t59), (76, Try.t76), (34, Try.t34), (21, Try.t21), (74, Try.t74), (73, Try.t73), (48, Try.t48), (1, Try.t1), (110, Try.t110), (67, Try.t67), (70, Try.t70), (20, Try.t20), (105, Try.t105), (88, Try.t88), (89, Try.t89), (72, Try.t72), (107, Try.t107), (69, Try.t69), (113, Try.t113), (86, Try.t86), (98, Try.t98), (109, Try.t109), (111, Try.t111), (143, Try.t143), (122, Try.t122), (45, Try.t45), (112, Try.t112), (85, Try.t85), (71, Try.t71), (77, Try.t77), (75, Try.t75), (66, Try.t66), (58, Try.t58), (33, Try.t33), (50, Try.t50), (47, Try.t47), (36, Try.t36)]
theorem tok : TOk Try.prog tt := TOk.of_all (by
  unfold tt
  refine List.forall_mem_cons.2 ⟨⟨by kernel_rfl, by kernel_rfl, .inl (by kernel_rfl)⟩, ?_⟩
  refine List.forall_mem_cons.2 ⟨⟨by kernel_rfl, by kernel_rfl, .inl (by kernel_rfl)⟩, ?_⟩
  refine List.forall_mem_cons.2 ⟨⟨by kernel_rfl, by kernel_rfl, .inl (by kernel_rfl)⟩, ?_⟩
  refine List.forall_mem_cons.2 ⟨⟨by kernel_rfl, by kernel_rfl, .inl (by kernel_rfl)⟩, ?_⟩
  refine List.forall_mem_cons.2 ⟨⟨by kernel_rfl, by kernel_rfl, .inl (by kernel_rfl)⟩, ?_⟩
  refine List.forall_mem_cons.2 ⟨⟨by kernel_rfl, by kernel_rfl, .inl (by kernel_rfl)⟩, ?_⟩
  refine List.forall_mem_cons.2 ⟨⟨by kernel_rfl, by kernel_rfl, .inl (by kernel_rfl)⟩, ?_⟩
  refine List.forall_mem_cons.2 ⟨⟨by kernel_rfl, by kernel_rfl, .inl (by kernel_rfl)⟩, ?_⟩
  refine List.forall_mem_cons.2 ⟨⟨by kernel_rfl, by kernel_rfl, .inl (by kernel_rfl)⟩, ?_⟩
  refine List.forall_mem_cons.2 ⟨⟨by kernel_rfl, by kernel_rfl, .inl (by kernel_rfl)⟩, ?_⟩
  refine List.forall_mem_cons.2 ⟨⟨by kernel_rfl, by kernel_rfl, .inl (by kernel_rfl)⟩, ?_⟩
  refine List.forall_mem_cons.2 ⟨⟨by kernel_rfl, by kernel_rfl, .inl (by kernel_rfl)⟩, ?_⟩
  refine List.forall_mem_cons.2 ⟨⟨by kernel_rfl, by kernel_rfl, .inr (by kernel_rfl)⟩, ?_⟩
  refine List.forall_mem_cons.2 ⟨⟨by kernel_rfl, by kernel_rfl, .inl (by kernel_rfl)⟩, ?_⟩
  refine List.forall_mem_cons.2 ⟨⟨by kernel_rfl, by kernel_rfl, .inl (by kernel_rfl)⟩, ?_⟩
  refine List.forall_mem_cons.2 ⟨⟨by kernel_rfl, by kernel_rfl, .inr (by kernel_rfl)⟩, ?_⟩
  refine List.forall_mem_cons.2 ⟨⟨by kernel_rfl, by kernel_rfl, .inl (by kernel_rfl)⟩, ?_⟩
  refine List.forall_mem_cons.2 ⟨⟨by kernel_rfl, by kernel_rfl, .inl (by kernel_rfl)⟩, ?_⟩
  refine List.forall_mem_cons.2 ⟨⟨by kernel_rfl, by kernel_rfl, .inl (by kernel_rfl)⟩, ?_⟩
  refine List.forall_mem_cons.2 ⟨⟨by kernel_rfl, by kernel_rfl, .inl (by kernel_rfl)⟩, ?_⟩
  refine List.forall_mem_cons.2 ⟨⟨by kernel_rfl, by kernel_rfl, .inl (by kernel_rfl)⟩, ?_⟩
  refine List.forall_mem_cons.2 ⟨⟨by kernel_rfl, by kernel_rfl, .inl (by kernel_rfl)⟩, ?_⟩
  refine List.forall_mem_cons.2 ⟨⟨by kernel_rfl, by kernel_rfl, .inl (by kernel_rfl)⟩, ?_⟩
  refine List.forall_mem_cons.2 ⟨⟨by kernel_rfl, by kernel_rfl, .inl (by kernel_rfl)⟩, ?_⟩
  refine List.forall_mem_cons.2 ⟨⟨by kernel_rfl, by kernel_rfl, .inl (by kernel_rfl)⟩, ?_⟩
  refine List.forall_mem_cons.2 ⟨⟨by kernel_rfl, by kernel_rfl, .inr (by kernel_rfl)⟩, ?_⟩
  refine List.forall_mem_cons.2 ⟨⟨by kernel_rfl, by kernel_rfl, .inl (by kernel_rfl)⟩, ?_⟩
  refine List.forall_mem_cons.2 ⟨⟨by kernel_rfl, by kernel_rfl, .inl (by kernel_rfl)⟩, ?_⟩
  refine List.forall_mem_cons.2 ⟨⟨by kernel_rfl, by kernel_rfl, .inl (by kernel_rfl)⟩, ?_⟩
  refine List.forall_mem_cons.2 ⟨⟨by kernel_rfl, by kernel_rfl, .inl (by kernel_rfl)⟩, ?_⟩
  refine List.forall_mem_cons.2 ⟨⟨by kernel_rfl, by kernel_rfl, .inl (by kernel_rfl)⟩, ?_⟩
  refine List.forall_mem_cons.2 ⟨⟨by kernel_rfl, by kernel_rfl, .inl (by kernel_rfl)⟩, ?_⟩
  refine List.forall_mem_cons.2 ⟨⟨by kernel_rfl, by kernel_rfl, .inl (by kernel_rfl)⟩, ?_⟩
  refine List.forall_mem_cons.2 ⟨⟨by kernel_rfl, by kernel_rfl, .inl (by kernel_rfl)⟩, ?_⟩
  refine List.forall_mem_cons.2 ⟨⟨by kernel_rfl, by kernel_rfl, .inl (by kernel_rfl)⟩, ?_⟩
  refine List.forall_mem_cons.2 ⟨⟨by kernel_rfl, by kernel_rfl, .inl (by kernel_rfl)⟩, ?_⟩
  refine List.forall_mem_cons.2 ⟨⟨by kernel_rfl, by kernel_rfl, .inl (by kernel_rfl)⟩, ?_⟩
  refine List.forall_mem_cons.2 ⟨⟨by kernel_rfl, by kernel_rfl, .inl (by kernel_rfl)⟩, ?_⟩
  refine List.forall_mem_cons.2 ⟨⟨by kernel_rfl, by kernel_rfl, .inl (by kernel_rfl)⟩, ?_⟩
  refine List.forall_mem_cons.2 ⟨⟨by kernel_rfl, by kernel_rfl, .inl (by kernel_rfl)⟩, ?_⟩
  refine List.forall_mem_cons.2 ⟨⟨by kernel_rfl, by kernel_rfl, .inl (by kernel_rfl)⟩, ?_⟩
  refine List.forall_mem_cons.2 ⟨⟨by kernel_rfl, by kernel_rfl, .inl (by kernel_rfl)⟩, ?_⟩
  refine List.forall_mem_cons.2 ⟨⟨by kernel_rfl, by kernel_rfl, .inl (by kernel_rfl)⟩, ?_⟩
  refine List.forall_mem_cons.2 ⟨⟨by kernel_rfl, by kernel_rfl, .inr (by kernel_rfl)⟩, ?_⟩
  refine List.forall_mem_cons.2 ⟨⟨by kernel_rfl, by kernel_rfl, .inr (by kernel_rfl)⟩, ?_⟩
  refine List.forall_mem_cons.2 ⟨⟨by kernel_rfl, by kernel_rfl, .inl (by kernel_rfl)⟩, ?_⟩
  refine List.forall_mem_cons.2 ⟨⟨by kernel_rfl, by kernel_rfl, .inl (by kernel_rfl)⟩, ?_⟩
  refine List.forall_mem_cons.2 ⟨⟨by kernel_rfl, by kernel_rfl, .inl (by kernel_rfl)⟩, ?_⟩
  refine List.forall_mem_cons.2 ⟨⟨by kernel_rfl, by kernel_rfl, .inl (by kernel_rfl)⟩, ?_⟩
  refine List.forall_mem_cons.2 ⟨⟨by kernel_rfl, by kernel_rfl, .inl (by kernel_rfl)⟩, ?_⟩
  refine List.forall_mem_cons.2 ⟨⟨by kernel_rfl, by kernel_rfl, .inl (by kernel_rfl)⟩, ?_⟩
  exact fun x hx => by cases hx)
theorem mixed : Try.prog.follows .mixedOrders = true := by kernel_rfl
end Go.Proofs.Ytbpgiodfccijmaa
namespace Go.Chi

/-! ### a part of a slice -/
def subA (size : Nat) (a : Option Addr) (cap l : Nat) : Option Addr := if cap = l then a else a.map (·.add (l * size))
section
variable {P : Program} {T : TT} {ro : Option Nat} {σ : Env} {δ : Den} {cur : Path} {M : Mem} {L : HL} {d : Option Nat} {op : Op} {ty : TypeId} {pos : String} {aft : Array Edge} {g : Option (Nat × Bool)} {v : Value}
theorem qt_sliceHi (hT : TOk P T) {t : TypeId} {x y : Operand} {a : Option Addr} {len cap : Nat} {k : IntKind} {n : Nat} {e s : Nat}
    (hx : ev σ δ cur x = some (.slice a len cap)) (hy : ev σ δ cur y = some (.int k (n : Int))) (hu : und T t = some (.slice e)) (hi : sizeT T e = some s) (hb : Hy σ δ cur → n ≤ cap) :
    Qt P ro ⟨d, .slice t x none (some y) none, ty, pos, aft, g⟩ σ δ cur M L (.slice (subA s a cap 0) n cap) :=
  qt_of_run (semAt_of (by intro c e; cases e)) fun act w hs hcur hp => by
    have h := hb (Hy_of hs hcur)
    simp [execOp, Instr.sliceAt, Instr.slice, Instr.sliceBounds, Instr.sliceBound, ev_sound hs hcur hx, ev_sound hs hcur hy, asIntOf, run_und hT hu, run_sizeT hT hi, h, subA]
theorem qt_sliceLo (hT : TOk P T) {t : TypeId} {x y : Operand} {a : Option Addr} {len cap : Nat} {k : IntKind} {n : Nat} {e s : Nat}
    (hx : ev σ δ cur x = some (.slice a len cap)) (hy : ev σ δ cur y = some (.int k (n : Int))) (hu : und T t = some (.slice e)) (hi : sizeT T e = some s) (hb : Hy σ δ cur → n ≤ len) :
    Qt P ro ⟨d, .slice t x (some y) none none, ty, pos, aft, g⟩ σ δ cur M L (.slice (subA s a cap n) (len - n) (cap - n)) :=
  qt_of_run (semAt_of (by intro c e; cases e)) fun act w hs hcur hp => by
    have h := hb (Hy_of hs hcur)
    simp [execOp, Instr.sliceAt, Instr.slice, Instr.sliceBounds, Instr.sliceBound, ev_sound hs hcur hx, ev_sound hs hcur hy, asIntOf, run_und hT hu, run_sizeT hT hi, h, subA]
end
theorem SlM.sub {M : Mem} {size : Nat} {a : Option Addr} {len cap : Nat} {ls : List (List Value)} (h : SlM M size a len ls) {l k : Nat} (hk : k ≤ len) (hc : len ≤ cap) : SlM M size (subA size a cap l) (k - l) ((ls.take k).drop l) := by
  obtain ⟨h1, h2, h3⟩ := h
  refine ⟨by simp; omega, fun x hx => h2 x (List.mem_of_mem_take (List.mem_of_mem_drop hx)), ?_⟩
  by_cases hlt : l < k
  · rcases h3 with rfl | ⟨b, off, rfl, hcell⟩
    · simp
    · refine .inr ⟨b, off + l * size, ?_, fun i c hi => ?_⟩
      · simp [subA, show ¬ cap = l from by omega, add_none]
      · rw [List.getElem?_drop, List.getElem?_take] at hi
        split at hi
        · have := hcell _ _ hi
          rw [Nat.add_mul] at this
          simpa [Nat.add_assoc] using this
        · cases hi
  · left
    apply List.drop_eq_nil_of_le
    simp
    omega
end Go.Chi
namespace Go.Chi
open Go.ChangeShapes Go.WideShapes Go.RowKit

/-! ### from the given statement to a contract -/
def memOf (W : World) : Mem := ⟨fun b => W.heap[b]?, W.os, W.output, W.tape⟩
theorem hp_memOf (W : World) : Hp (memOf W) [] W := ⟨rfl, rfl, rfl, fun _ _ h => h, (fun _ h => by cases h), by simp, fun _ h => by cases h⟩
structure Keeps (W W' : World) : Prop where
  os : W'.os = W.os
  out : W'.output = W.output
  blk : ∀ b, b < W.heap.size → W'.heap[b]? = W.heap[b]?
theorem keeps_of {W W' : World} {M : Mem} {L : HL} (h : Hp M L W') (hle : (memOf W).le M) : Keeps W W' :=
  ⟨h.os.trans hle.os, h.out.trans hle.out, fun b hb => by
    have := Array.getElem?_eq_getElem hb
    rw [this]
    exact h.blk b _ (hle.blk b _ this)⟩
theorem Keeps.same {W W' : World} (h : Keeps W W') {p : MemPlace} (hp : p.block < W.heap.size) : W.sameAt W' p := by
  cases p with
  | cell b off =>
    show W'.cell? ⟨b, off, none⟩ = W.cell? ⟨b, off, none⟩
    simp only [World.cell?, h.blk b hp]
  | map b => exact h.blk b hp
theorem Keeps.kept {W W' : World} (h : Keeps W W') (may : MemPlace → Prop) : W.keptBut W' may := by
  refine ⟨h.os, h.out, fun i hi => ?_⟩
  rw [h.blk i hi]
  have hs := Array.getElem?_eq_getElem hi
  rw [hs]
  cases W.heap[i] <;> simp
section
variable {H : Type} {enc : TypeId × Value → H} {P : Program} {W W' : World}
theorem trodAll_keep (hl : laidOutB P = true) (hk : Keeps W W') {sp : Nat → Bool} : ∀ {ts : List TypeId} {vs : List Value} {ds : List (DataW H)} {ps : List MemPlace}, (∀ t ∈ ts, P.readableRec t = true ∧ t < P.types.size) → DataW.TrodAll enc P W 0 (fun _ => true) true ts vs ds ps → (∀ p ∈ ps, p.block < W.heap.size) → (∀ p ∈ ps, sp p.block = true) → DataW.TrodAll enc P W' 0 sp true ts vs ds ps
  | [], _, _, _, _, h, _, _ => by
    obtain ⟨rfl, rfl, rfl⟩ := trodAll_nil h
    rfl
  | t :: ts, _, _, _, hr, h, hlt, hsp => by
    obtain ⟨v, vs1, d, ds1, a, b, rfl, rfl, rfl, ⟨n, h1⟩, h2⟩ := trodAll_cons h
    have ht := hr t List.mem_cons_self
    exact ⟨a, b, ⟨n, DataW.trod_stays (kids_book hl ht.1) (fun ht' hu => book_sized ht.1 ht' hu) (by intro e; cases e) (t := t) ⟨ht.2, book_self t⟩ h1 (fun p hp => hk.same (hlt p (List.mem_append_left _ hp))) (fun p hp => hsp p (List.mem_append_left _ hp))⟩,
      trodAll_keep hl hk (fun t ht => hr t (List.mem_cons_of_mem _ ht)) h2 (fun p hp => hlt p (List.mem_append_right _ hp)) (fun p hp => hsp p (List.mem_append_right _ hp)), rfl⟩
/-- the law's answer is true, and nothing that was there has turned -/
theorem law_post {f : Func} {s : ChangeSpec} {apart fresh handsOn again : Bool} {args : Array Value} {ds gs : List (DataW H)} {before : List MemPlace} {tb : TypeId}
    (hW : DataW.Whole enc P f.params.toList s.vars apart W args.toList ds gs before) (hv : s.vars = []) (hfn : s.fn H ds = { results := [.lit (.bool true)], args := ds })
    (hres : f.resultTypes = #[tb]) (hb : P.underlying tb = some .bool) (hl : laidOutB P = true) (hr : ∀ t ∈ f.params.toList, P.readableRec t = true ∧ t < P.types.size) (hk : Keeps W W') :
    s.post enc P f apart fresh handsOn again W args (.bool true) W' := by
  have hW' := hW
  obtain ⟨p, q, hA, hV, rfl, hz, hn⟩ := hW
  rw [hv] at hV
  obtain ⟨rfl, rfl⟩ := trodVars_none hV
  simp only [List.append_nil] at hW' hz hn ⊢
  have hlt : ∀ x ∈ p, x.block < W.heap.size := fun x hx => hW'.lt x hx
  have hold : ∀ x ∈ p, (fun b => decide (b < W.heap.size)) x.block = true := fun x hx => by simpa using hlt x hx
  have hR : ∀ (b : Nat) (sp : Nat → Bool) (hd : Bool), DataW.TrodAll enc P W' b sp hd f.resultTypes.toList ((Value.bool true).resultList f.resultTypes.size) (s.fn H (ds ++ [])).results [] := fun b sp hd => by
    rw [List.append_nil, hfn, hres]
    exact trodAll_mk1 (shut_bool hb _)
  have hargs : ∀ sp : Nat → Bool, (∀ x ∈ p, sp x.block = true) → DataW.TrodAll enc P W' 0 sp true f.params.toList args.toList (s.fn H (ds ++ [])).args p := fun sp hsp => by
    rw [List.append_nil, hfn]
    exact trodAll_keep hl hk hr hA hlt hsp
  have hvars : ∀ sp : Nat → Bool, DataW.TrodVars enc P W' sp s.vars (s.fn H (ds ++ [])).vars [] := fun sp => by
    rw [List.append_nil, hfn, hv]
    rfl
  refine ⟨ds, [], p, [], p, [], hW', hR _ _ _, hargs _ hold, hvars _, World.keptBut_mono (fun x hx => ⟨hx, Or.inr (by simpa using hx)⟩) (hk.kept (· ∈ p)), fun _ => ?_⟩
  refine ⟨?_, _, _, ([] ++ p) ++ [], ⟨[] ++ p, [], trodAll_append (hargs _ (fun _ _ => rfl)) (hR _ _ _), hvars _, rfl, ?_, ?_⟩, ?_⟩
  · rw [hres]
    intro j t r h1 h2
    match j, h1, h2 with
    | 0, h1, h2 =>
      simp at h1
      subst h1
      have : r = .bool true := by simpa [Value.resultList] using h2.symm
      subst this
      exact okWide_bool_mk hb _
    | j + 1, h1, h2 => simp at h1
  · intro b off hp
    have hp' : MemPlace.cell b off ∈ p := by simpa using hp
    have h1 := hz b off hp'
    have h2 := hk.blk b (hlt _ hp')
    simp only [World.frozen?, h2] at h1 ⊢
    exact h1
  · intro ha
    simpa using hn ha
  · intro x hx _
    simpa using hx
/-- the contract of a law, as the statement asks for it -/
theorem law_calls {f : FuncId} {fn : Func} {s : ChangeSpec} {apart fresh handsOn again : Bool} {args : Array Value} {ds gs : List (DataW H)} {before : List MemPlace} {tb : TypeId}
    (hW : DataW.Whole enc P fn.params.toList s.vars apart W args.toList ds gs before) (hv : s.vars = []) (hfn : s.fn H ds = { results := [.lit (.bool true)], args := ds })
    (hres : fn.resultTypes = #[tb]) (hb : P.underlying tb = some .bool) (hl : laidOutB P = true) (hr : ∀ t ∈ fn.params.toList, P.readableRec t = true ∧ t < P.types.size)
    (h : Tr P f args.toList (memOf W) [] (fun v M' _ => v = .bool true ∧ (memOf W).le M')) :
    Calls P f args W fun e W' => ∃ v, e = .returned v ∧ s.post enc P fn apart fresh handsOn again W args v W' := by
  refine (h.2 W (hp_memOf W)).calls.mono fun e W' => ?_
  rintro ⟨v, rfl, M', L', hp, rfl, hle⟩
  exact ⟨_, rfl, law_post hW hv hfn hres hb hl hr (keeps_of hp hle)⟩
end

/-! ### what was handed over, as data -/
section
variable {H : Type}
/-- the cells cs read as a value of type t -/
def RD (enc : TypeId × Value → H) (P : Program) (W : World) (t : TypeId) (cs : List Value) : Prop := ∃ n x, DataW.trod enc P W 0 (fun _ => true) true n t cs = some x
def RDs (enc : TypeId × Value → H) (P : Program) (W : World) : List TypeId → List Value → Prop
  | [], cs => cs = []
  | t :: ts, cs => ∃ a b, cs = a ++ b ∧ RD enc P W t a ∧ RDs enc P W ts b
variable {enc : TypeId × Value → H} {P : Program} {W : World} {t : TypeId} {cs : List Value}
theorem RD.int (h : RD enc P W t cs) {k : IntKind} (hu : P.underlying t = some (.int k)) : ∃ n, cs = [.int k n] ∧ (Lit.int k n).wf = true := by
  obtain ⟨m, x, h⟩ := h
  obtain ⟨n, h1, _, h2⟩ := DataW.trod_int hu h
  exact ⟨n, h1, h2⟩
theorem RD.bool (h : RD enc P W t cs) (hu : P.underlying t = some .bool) : ∃ n, cs = [.bool n] := by
  obtain ⟨m, x, h⟩ := h
  obtain ⟨n, h1, _⟩ := DataW.trod_bool hu h
  exact ⟨n, h1⟩
theorem RD.string (h : RD enc P W t cs) (hu : P.underlying t = some .string) : ∃ s : ByteArray, cs = [.string s] ∧ s.size ≤ maxLen := by
  obtain ⟨m, x, h⟩ := h
  obtain ⟨n, h1, _, h2⟩ := DataW.trod_string hu h
  exact ⟨n, h1, h2⟩
def offsOk (P : Program) : Nat → List Field → Bool
  | _, [] => true
  | o, f :: fs => Nat.beq f.offset o && offsOk P (o + P.cellsOf f.type) fs
def sumOf (P : Program) (fs : List Field) : Nat := (fs.map fun f => P.cellsOf f.type).sum
theorem RD.struct (h : RD enc P W t cs) {fs : Array Field} (hu : P.underlying t = some (.struct fs)) (ho : (offsOk P 0 fs.toList && Nat.beq (sumOf P fs.toList) (P.cellsOf t)) = true) : RDs enc P W (fs.toList.map (·.type)) cs := by
  obtain ⟨m, x, h⟩ := h
  obtain ⟨xs, n, _, _, hl, hxl, hf⟩ := DataW.trod_struct hu h
  rw [Bool.and_eq_true] at ho
  have hsum := Nat.eq_of_beq_eq_true ho.2
  have key : ∀ (gs : List Field) (i o : Nat) (rest : List Value), fs.toList.drop i = gs → offsOk P o gs = true → cs.drop o = rest → rest.length = sumOf P gs → RDs enc P W (gs.map (·.type)) rest := by
    intro gs
    induction gs with
    | nil => intro i o rest _ _ _ hlen; exact List.length_eq_zero_iff.1 (by simpa [sumOf] using hlen)
    | cons f gs ih =>
      intro i o rest hdrop hoff hrest hlen
      simp only [offsOk, Bool.and_eq_true] at hoff
      have hfo := Nat.eq_of_beq_eq_true hoff.1
      have hget : fs[i]? = some f := by
        have := congrArg (fun l => l[0]?) hdrop
        simpa using this
      have hr := hf i f hget
      have hi : i < xs.length := by rw [hxl]; exact (Array.getElem?_eq_some_iff.1 hget).1
      rw [List.getElem?_eq_getElem hi, hfo, hrest] at hr
      refine ⟨rest.take (P.cellsOf f.type), rest.drop (P.cellsOf f.type), (List.take_append_drop _ _).symm, ⟨n, _, hr⟩, ?_⟩
      refine ih (i + 1) (o + P.cellsOf f.type) _ ?_ hoff.2 ?_ ?_
      · rw [← List.drop_drop, hdrop]; rfl
      · rw [← hrest, List.drop_drop]
      · simp only [sumOf, List.map_cons, List.sum_cons] at hlen
        rw [List.length_drop, hlen]
        simp [sumOf]
  exact key fs.toList 0 0 cs rfl ho.1 rfl (by rw [hl, hsum])
theorem RD.slice (h : RD enc P W t cs) {e : TypeId} {size : Nat} (hu : P.underlying t = some (.slice e)) (hC : P.cellsOf e = size) (hpos : 0 < size) :
    ∃ a len cap ls, cs = [.slice a len cap] ∧ len ≤ cap ∧ cap ≤ maxLen ∧ SlM (memOf W) size a len ls ∧ ∀ c ∈ ls, RD enc P W e c := by
  obtain ⟨m, x, h⟩ := h
  rcases Go.Deep.open_slice hu h with ⟨rfl, _⟩ | ⟨a, len, cap, m', n, D, Pl, rfl, _, hlc, hmx, hm', _, hel⟩
  · exact ⟨none, 0, 0, [], rfl, Nat.le_refl _, Nat.zero_le _, SlM.nil _ _ _, fun c hc => by cases hc⟩
  · simp only [if_true] at hm'
    have hch : ∀ i, ∃ c, i < len → (W.cells? 0 (a.add (i * size)) size = some c ∧ RD enc P W e c) := fun i => by
      by_cases hi : i < len
      · obtain ⟨c, h1, h2⟩ := hel i (by omega)
        rw [hC] at h1
        exact ⟨c, fun _ => ⟨h1, n, _, h2⟩⟩
      · exact ⟨[], fun h => absurd h hi⟩
    obtain ⟨F, hF⟩ := Classical.axiomOfChoice hch
    refine ⟨some a, len, cap, (List.range len).map F, rfl, hlc, hmx, ⟨by simp, fun l hl => ?_, ?_⟩, fun c hc => ?_⟩
    · obtain ⟨i, hi, rfl⟩ := List.mem_map.1 hl
      exact (World.cells?_some (hF i (List.mem_range.1 hi)).1).2.1
    · by_cases h0 : len = 0
      · left; simp [h0]
      · right
        have hspot : a.spot = none := by
          have h1 := (World.cells?_some (hF 0 (by omega)).1).2.2 0 hpos
          have hlen0 := (World.cells?_some (hF 0 (by omega)).1).2.1
          simp only [Nat.zero_mul] at h1
          have hs : (F 0)[0]? = some ((F 0)[0]'(by omega)) := List.getElem?_eq_getElem (by omega)
          rw [hs] at h1
          have ha0 : (a.add 0).add 0 = a := by simp [Addr.add]
          rw [ha0] at h1
          unfold World.cell? at h1
          split at h1
          · split at h1
            · cases h1
            · rename_i hsp; cases h2 : a.spot with
              | none => rfl
              | some v => simp [h2] at hsp
          · cases h1
        obtain ⟨ab, ao, asp⟩ := a
        simp only at hspot
        subst hspot
        refine ⟨ab, ao, rfl, fun i c hc => ?_⟩
        have hi : i < len := by
          have := (List.getElem?_eq_some_iff.1 hc).1
          simpa using this
        have hci : c = F i := by
          have : ((List.range len).map F)[i]? = some (F i) := by simp [hi]
          rw [this] at hc
          exact (Option.some.inj hc).symm
        subst hci
        obtain ⟨_, hlen, hcell⟩ := World.cells?_some (hF i hi).1
        have hbase : ∀ j, j < size → W.cell? ⟨ab, ao + i * size + j, none⟩ = (F i)[j]? := fun j hj => by
          have := hcell j hj
          rw [add_none, add_none] at this
          exact this
        have hb : ∃ cells ty fz, W.heap[ab]? = some (.cells cells ty fz) := by
          have h1 := hbase 0 hpos
          rw [List.getElem?_eq_getElem (by omega)] at h1
          unfold World.cell? at h1
          split at h1
          · rename_i c1 t1 f1 he; exact ⟨c1, t1, f1, he⟩
          · cases h1
        obtain ⟨cells, ty, fz, hb⟩ := hb
        refine ⟨cells, ty, fz, .inr hb, fun j v hv => ?_⟩
        have hj : j < size := by have := (List.getElem?_eq_some_iff.1 hv).1; omega
        have := hbase j hj
        rw [hv] at this
        simpa [World.cell?, hb] using this
    · obtain ⟨i, hi, rfl⟩ := List.mem_map.1 hc
      exact (hF i (List.mem_range.1 hi)).2
theorem list_of {α : Type} {f : α → List Value} {Q : α → Prop} : ∀ {ls : List (List Value)}, (∀ c ∈ ls, ∃ x, c = f x ∧ Q x) → ∃ xs : List α, ls = xs.map f ∧ ∀ x ∈ xs, Q x
  | [], _ => ⟨[], rfl, fun x hx => by cases hx⟩
  | c :: ls, h => by
    obtain ⟨x, h1, h2⟩ := h c List.mem_cons_self
    obtain ⟨xs, h3, h4⟩ := list_of fun c hc => h c (List.mem_cons_of_mem _ hc)
    exact ⟨x :: xs, by simp [h1, h3], fun y hy => by
      rcases List.mem_cons.1 hy with rfl | hy
      · exact h2
      · exact h4 y hy⟩
end
end Go.Chi
namespace Go.Chi
open Go.ChangeShapes Go.WideShapes
theorem trod3 {H : Type} {enc : TypeId × Value → H} {P : Program} {w : World} {base : Nat} {spare : Nat → Bool} {held : Bool} {t t' t'' : TypeId} {args : Array Value} {ds : List (DataW H)} {ps : List MemPlace} (h : DataW.TrodAll enc P w base spare held [t, t', t''] args.toList ds ps) :
    ∃ v v' v'' d d' d'' p p' p'', args = #[v, v', v''] ∧ ds = [d, d', d''] ∧ DataW.Trod enc P w base spare held t v d p ∧ DataW.Trod enc P w base spare held t' v' d' p' ∧ DataW.Trod enc P w base spare held t'' v'' d'' p'' := by
  obtain ⟨v, vs, d, ds', p, q, hargs, rfl, rfl, hd, hrest⟩ := trodAll_cons h
  obtain ⟨v', vs', d', ds'', p', q', rfl, rfl, rfl, hd', hrest'⟩ := trodAll_cons hrest
  obtain ⟨v'', vs'', d'', ds''', p'', q'', rfl, rfl, rfl, hd'', hrest''⟩ := trodAll_cons hrest'
  obtain ⟨rfl, rfl, rfl⟩ := trodAll_nil hrest''
  exact ⟨v, v', v'', d, d', d'', p, p', p'', by cases args; simp_all, rfl, hd, hd', hd''⟩
end Go.Chi
namespace Go.Chi

/-- function g, called with yield, hands it xs, one behind the other, as long as it says yes; what is kept between two of them stays so, if more is known for good -/
def IterM (P : Program) (g : FuncId) (caps : List Value) (M : Mem) (xs : List (List Value)) : Prop :=
  ∀ (l : Nat) (I X : Nat → Mem → HL → Prop) (M0 : Mem) (L0 : HL), M.le M0 → (∀ k M1 M2 L1, M1.le M2 → I k M1 L1 → I k M2 L1) →
    (∀ k x M1 L1 F, xs[k]? = some x → M0.le M1 → I k M1 L1 → YieldTo P l x M1 (F ++ L1) (fun v M2 Lt => ∃ L2, Lt = F ++ L2 ∧ M1.le M2 ∧ ((v = .bool true ∧ I (k + 1) M2 L2) ∨ (v = .bool false ∧ X k M2 L2)))) →
    I 0 M0 L0 →
    Tr P g (yv l :: caps) M0 L0 (fun _ M2 Lt => M0.le M2 ∧ (I xs.length M2 Lt ∨ ∃ k, X k M2 Lt))
theorem IterM.le {P : Program} {g : FuncId} {caps : List Value} {M M' : Mem} {xs : List (List Value)} (h : IterM P g caps M xs) (hm : M.le M') : IterM P g caps M' xs :=
  fun l I X M0 L0 hle => h l I X M0 L0 (Mem.le_trans hm hle)

/-- the statement -/
theorem run_rangeM {P : Program} {C : Cx} {n : Nat} {k : List Item} {ds : List Deferred} {σ : Env} {M : Mem} {L : HL} {f : Operand} {ps : Array Tmp} {assign body : Code} {g : FuncId} {caps : Array Value} {xs : List (List Value)}
    (hro : C.b.roundOf = none) (hf : ev σ [] [] f = some (.func (.func g) #[] caps)) (hit : IterM P g caps.toList M xs)
    (hps : ps.toList.all (fun p => Nat.blt p n) = true) (hxs : ∀ x ∈ xs, x.length = ps.size)
    (I : Nat → Mem → HL → Prop) (X : Code → Nat → Mem → HL → Prop) (hmono : ∀ k M1 M2 L1, M1.le M2 → I k M1 L1 → I k M2 L1) (h0 : I 0 M L)
    (hbody : ∀ j x M1 L1 R R' C', xs[j]? = some x → M.le M1 → I j M1 L1 → RdB P C' n M1 R R' (I (j + 1)) (fun c => X c j) → Run P C' n [.code assign, .beginRound, .code body] [] (setPs ps.toList x σ) M1 (L1 ++ R))
    (hdone : ∀ D M2 L2, M.le M2 → I xs.length M2 L2 → Run P C n k (⟨.collected D, #[]⟩ :: ds) σ M2 ((D, .deferred (some [])) :: L2))
    (hjump : ∀ c j D M2 L2, M.le M2 → X c j M2 L2 → Run P C n (.code c :: k) (⟨.collected D, #[]⟩ :: ds) σ M2 ((D, .deferred (some [])) :: L2)) :
    Run P C n (.code (.rangeFunc f ps assign body) :: k) ds σ M L := fun a w h1 h2 h3 h4 => by
  obtain ⟨rec, hrec⟩ : ∃ rec : LoopState → Option Code → Loop, rec = fun st pe => { state := st, pending := pe, fn := C.b.fn, tmps := a.tmps, params := ps, assign, body, defers := w.heap.size } := ⟨_, rfl⟩
  have hent := run_enterLoop_outer (P := P) (w := w) C.b.fn a.tmps ps assign body
  have hp1 : Hp M ((w.heap.size + 1, .loop (rec .ready none)) :: (w.heap.size, .deferred (some [])) :: L) ((w.alloc (.deferred (some []))).alloc (.loop (rec .ready none))) := by
    have a1 := h4.push (.deferred (some []))
    have a2 := a1.push (.loop (rec .ready none))
    simp only [Array.size_push] at a2
    exact a2
  have hlp : w.heap.size + 1 ≠ w.heap.size := by omega
  -- what the caller's memory is, between two rounds
  let I' : Nat → Mem → HL → Prop := fun j M' L' => M.le M' ∧ ∃ L1, L' = (w.heap.size + 1, .loop (rec .ready none)) :: (w.heap.size, .deferred (some [])) :: L1 ∧ I j M' L1
  let X' : Nat → Mem → HL → Prop := fun j M' L' => M.le M' ∧ ∃ c L1, L' = (w.heap.size + 1, .loop (rec .done (some c))) :: (w.heap.size, .deferred (some [])) :: L1 ∧ X c j M' L1
  have htr := hit (w.heap.size + 1) I' X' M ((w.heap.size + 1, .loop (rec .ready none)) :: (w.heap.size, .deferred (some [])) :: L) (Mem.le_refl M) (fun k M1 M2 L1 hle ⟨h1, L2, h2, h3⟩ => ⟨Mem.le_trans h1 hle, L2, h2, hmono k M1 M2 L2 hle h3⟩) ?body ⟨Mem.le_refl M, L, rfl, h0⟩
  case body =>
    rintro j x M1 L1' F hx hM1 ⟨_, L1, rfl, hI⟩ w1 hw1
    have hl : w1.heap[w.heap.size + 1]? = some (.loop (rec .ready none)) := hw1.own (w.heap.size + 1, .loop (rec .ready none)) (by simp)
    have hlen : x.length = ps.size := hxs x (List.mem_of_getElem? hx)
    rw [run_yield (P := P) (args := ⟨x⟩) hl (by rw [hrec]; simpa using hlen)]
    show Rd P _ _ _ _ _ w1 _
    intro c cs
    let b : Frame := { (default : Frame) with fn := (rec .ready none).fn, kind := .normal, roundOf := some (w.heap.size + 1) }
    obtain ⟨hsee, hsz⟩ := sees_setPs (n := n) ps.toList x σ a.tmps [] (fun p hp => Nat.blt_eq.mp (List.all_eq_true.1 hps p hp)) h1 (by simpa using hlen.symm) ⟨h3.s, h3.d⟩
    have htm : (((rec .ready none).params.zip ⟨x⟩).foldl (fun (tmps : Array Value) (y : Nat × Value) => tmps.setIfInBounds y.1 y.2) (rec .ready none).tmps) = (ps.toList.zip x).foldl (fun t y => t.setIfInBounds y.1 y.2) a.tmps := by
      rw [hrec]
      rw [← Array.foldl_toList, Array.toList_zip]
    have hfr : Frame.round (w.heap.size + 1) (rec .ready none).fn (((rec .ready none).params.zip ⟨x⟩).foldl (fun (tmps : Array Value) (y : Nat × Value) => tmps.setIfInBounds y.1 y.2) (rec .ready none).tmps) (rec .ready none).assign (rec .ready none).body .normal =
        b.atR ⟨(ps.toList.zip x).foldl (fun t y => t.setIfInBounds y.1 y.2) a.tmps, []⟩ [.code assign, .beginRound, .code body] := by
      rw [htm]; simp [Frame.round, Frame.atR, b, hrec]
    let K : Value → Mem → HL → Prop := fun v M2 Lt => ∃ L2, Lt = F ++ L2 ∧ M1.le M2 ∧ ((v = .bool true ∧ I' (j + 1) M2 L2) ∨ (v = .bool false ∧ X' j M2 L2))
    let Φ : Frame → World → Prop := fun fr w2 => ∃ v w', ∃ M' L', Hp M' L' w' ∧ K v M' L' ∧ step P (lone fr (c :: cs) w2) = .next (lone (c.finish v) cs w')
    have hC : RdCx P (w.heap.size + 1) K ⟨b, c :: cs, Φ⟩ := ⟨rfl, rfl, c, cs, rfl, rfl⟩
    have hMM : M.le M1 := hM1
    -- the round's frame, with the loop's record behind
    have perm1 : ∀ (o : Obj) (L2 : HL), (L2 ++ ((w.heap.size + 1, o) :: (w.heap.size, .deferred (some [])) :: F)).Perm (F ++ ((w.heap.size + 1, o) :: (w.heap.size, .deferred (some [])) :: L2)) := fun o L2 => by
      refine List.perm_append_comm.trans ?_
      refine List.Perm.trans ?_ List.perm_append_comm
      simp only [List.cons_append]
      refine List.Perm.cons _ (List.Perm.cons _ ?_)
      exact List.perm_append_comm
    have upd : ∀ (o o' : Obj) (L2 : HL), Upd (F ++ ((w.heap.size + 1, o) :: (w.heap.size, .deferred (some [])) :: L2)) (w.heap.size + 1) o o' (F ++ ((w.heap.size + 1, o') :: (w.heap.size, .deferred (some [])) :: L2)) :=
      fun o o' L2 => (Upd.here _ _ _ _).append_left F
    have hb := hbody j x M1 L1 ((w.heap.size + 1, .loop (rec .ready none)) :: (w.heap.size, .deferred (some [])) :: F) ((w.heap.size + 1, .loop (rec .busy none)) :: (w.heap.size, .deferred (some [])) :: F) ⟨b, c :: cs, Φ⟩ hx hMM hI {
      begin_ := fun k σ M L2 h => by
        refine run_perm (perm1 _ L2) ?_
        refine rd_begin hC (r := rec .ready none) (upd _ _ L2) (by rw [hrec]) ?_
        refine run_perm (perm1 _ L2).symm ?_
        rw [hrec] at h ⊢
        exact h
      fin := fun σ M2 L2 hM2 hJ => by
        refine run_perm (perm1 _ L2) ?_
        refine rd_end hC (r := rec .busy none) (upd _ _ L2) ?_
        refine ⟨_, rfl, hM2, .inl ⟨rfl, Mem.le_trans hMM hM2, L2, ?_, hJ⟩⟩
        rw [hrec]
      ret := fun k σ M2 L2 hM2 hX => by
        refine run_perm (perm1 _ L2) ?_
        refine rd_ret hC (r := rec .busy none) (upd _ _ L2) ?_
        refine ⟨_, rfl, hM2, .inr ⟨rfl, Mem.le_trans hMM hM2, .ret, L2, ?_, hX⟩⟩
        rw [hrec]
      exit := fun id k σ M2 L2 hx hM2 hX => by
        refine run_perm (perm1 _ L2) ?_
        refine rd_exit hC (r := rec .busy none) hx (upd _ _ L2) ?_
        refine ⟨_, rfl, hM2, .inr ⟨rfl, Mem.le_trans hMM hM2, .exit id, L2, ?_, hX⟩⟩
        rw [hrec] }
    obtain ⟨fr', w2, hs, v, w3, M', L', hp3, hK, hstep⟩ := hb _ w1 hsz rfl hsee (hw1.perm (perm1 _ L1).symm)
    rw [hfr]
    exact ⟨v, w3, ⟨M', L', hp3, hK⟩, hs.trans (.one hstep)⟩
  -- the call
  have hres : (resolve a.eval (rangeCall f (w.heap.size + 1)) 0).run P ((w.alloc (.deferred (some []))).alloc (.loop (rec .ready none))) = .ok { target := .fn (.func g) caps, args := #[yv (w.heap.size + 1)] } ((w.alloc (.deferred (some []))).alloc (.loop (rec .ready none))) := by
    have h5 := ev_sound h3 (holds_nil a) hf
    have h6 : (#[Operand.const (.func (.yield (w.heap.size + 1)) #[] #[])] : Array Operand).map a.eval = #[yv (w.heap.size + 1)] := by simp [Act.eval, yv]
    simp only [resolve, h5, h6, Deferred.ofValue, Sem.run_pure]
    simp
  have hinv : (invoke (.fn (.func g) caps) #[yv (w.heap.size + 1)]).run P ((w.alloc (.deferred (some []))).alloc (.loop (rec .ready none))) = .ok (.enter g ⟨yv (w.heap.size + 1) :: caps.toList⟩) ((w.alloc (.deferred (some []))).alloc (.loop (rec .ready none))) := by
    have e : (#[yv (w.heap.size + 1)] ++ caps : Array Value) = ⟨yv (w.heap.size + 1) :: caps.toList⟩ := by apply Array.ext'; simp
    simp only [invoke, e]
    exact htr.1 _
  have henter := stepR_rangeFunc (P := P) (b := C.b) (a := a) (k := k) (cs := C.cs) (w := w) (g := f) (ps := ps) (assign := assign) (body := body) (by rw [hro]; exact hent) (by rw [hrec] at hres; exact hres) (by rw [hrec] at hinv; exact hinv)
  obtain ⟨v, w2, fr, ⟨M2, Lt, hp2, hM2, hend⟩, hsteps, _, hleave⟩ := htr.2 _ hp1 (C.b.atR { a with defers := [{ target := .collected w.heap.size, args := #[] }] ++ a.defers } (.inRangeFunc (w.heap.size + 1) :: k) :: C.cs)
  have hback : Steps P (lone (C.b.atR a (.code (.rangeFunc f ps assign body) :: k)) C.cs w) (lone (C.b.atR { a with defers := [{ target := .collected w.heap.size, args := #[] }] ++ a.defers } (.endRangeFunc (w.heap.size + 1) :: k)) C.cs w2) := by
    refine .head henter ?_
    rw [hrec] at hsteps
    refine hsteps.trans (.one ?_)
    rw [← finish_atR_inRangeFunc (w.heap.size + 1) v]
    exact step_leave_returned hleave
  refine J.steps hback ?_
  have hds : ({ a with defers := [{ target := .collected w.heap.size, args := #[] }] ++ a.defers } : Act).defers = ⟨.collected w.heap.size, #[]⟩ :: ds := by simp [h2]
  have hs' : Sees σ [] ({ a with defers := [{ target := .collected w.heap.size, args := #[] }] ++ a.defers } : Act) := ⟨h3.s, h3.d⟩
  rcases hend with ⟨_, L2, rfl, hI⟩ | ⟨j, _, c, L2, rfl, hX⟩
  · have hl2 := hp2.own (w.heap.size + 1, .loop (rec .ready none)) (by simp)
    have hel := run_endLoop (P := P) hl2 (by rw [hrec]; simp)
    refine J.step (stepR_endRangeFunc hel) ?_
    have hpe : (rec .ready none).pending = none := by rw [hrec]
    rw [hpe]
    refine hdone w.heap.size M2 L2 hM2 hI _ _ h1 hds hs' ?_
    exact (hp2.putObj (Upd.here _ _ _ _)).drop
  · have hl2 := hp2.own (w.heap.size + 1, .loop (rec .done (some c))) (by simp)
    have hel := run_endLoop (P := P) hl2 (by rw [hrec]; simp)
    refine J.step (stepR_endRangeFunc hel) ?_
    have hpe : (rec .done (some c)).pending = some c := by rw [hrec]
    rw [hpe]
    refine hjump c j w.heap.size M2 L2 hM2 hX _ _ h1 hds hs' ?_
    exact (hp2.putObj (Upd.here _ _ _ _)).drop

end Go.Chi
namespace Go.Chi

/-! ### functions that may panic, and what they put off till their end -/
/-- a frame that runs no longer, in the mode u, with ds put off -/
def RunX (P : Program) (C : Cx) (n : Nat) (u : FrameMode) (ds : List Deferred) (σ : Env) (M : Mem) (L : HL) : Prop :=
  ∀ a w k, a.tmps.size = n → a.defers = ds → Sees σ [] a → Hp M L w → J P C.cs C.Φ { C.b.atR a k with mode := u } w

/-- a call comes to an end -/
def FnE (P : Program) (f : FuncId) (args : Array Value) (w : World) (R : Ending → World → Prop) : Prop :=
  ∀ cs, ∃ e w' fr, R e w' ∧ e ≠ .outgrown ∧ Steps P (lone (Frame.enter P f args .normal) cs w) (lone fr cs w') ∧ fr.fn = f ∧ fr.leaving P w' e
def TrE (P : Program) (f : FuncId) (args : List Value) (M : Mem) (L : HL) (K : Ending → Mem → HL → Prop) : Prop :=
  (∀ w, (callFunc f ⟨args⟩).run P w = .ok (.enter f ⟨args⟩) w) ∧ ∀ w, Hp M L w → FnE P f ⟨args⟩ w (fun e w' => ∃ M' L', Hp M' L' w' ∧ K e M' L')
def PhiE (P : Program) (f : FuncId) (K : Ending → Mem → HL → Prop) : Frame → World → Prop := fun fr w => ∃ e M L, Hp M L w ∧ K e M L ∧ e ≠ .outgrown ∧ fr.fn = f ∧ fr.leaving P w e
structure FnCxE (P : Program) (f : FuncId) (fn : Func) (K : Ending → Mem → HL → Prop) (C : Cx) : Prop where
  fnn : P.funcs[f]? = some fn
  b : C.b.fn = f
  kind : C.b.kind = .normal
  ro : C.b.roundOf = none
  phi : C.Φ = PhiE P f K
theorem TrE.intro {P : Program} {f : FuncId} {fn : Func} {c : Code} {args : List Value} {M : Mem} {L : HL} {K : Ending → Mem → HL → Prop} (n : Nat) (hf : P.funcs[f]? = some fn) (hb : fn.body = some c) (hn : fn.ntmps = n) (hc : ∀ args w, (callFunc f args).run P w = .ok (.enter f args) w)
    (ha : Nat.ble args.length n = true) (h : ∀ C, FnCxE P f fn K C → C.b.roundOf = none → Run P C n [.code c] [] (argEnv 0 args) M L) : TrE P f args M L K := by
  refine ⟨fun w => hc _ w, fun w hw cs => ?_⟩
  have ha := Nat.le_of_ble_eq_true ha
  let b : Frame := { (default : Frame) with fn := f, kind := .normal, roundOf := none }
  have henter : Frame.enter P f ⟨args⟩ .normal = b.atR { tmps := ⟨args⟩ ++ Array.replicate (n - args.length) undef, defers := [] } [.code c] := by
    simp [Frame.enter, Frame.atR, hf, hb, hn, b]
  have hrun := h ⟨b, cs, PhiE P f K⟩ ⟨hf, rfl, rfl, rfl, rfl⟩ rfl { tmps := ⟨args⟩ ++ Array.replicate (n - args.length) undef, defers := [] } w (by simp; omega) rfl
    ⟨fun t v e => by
      obtain ⟨_, h2⟩ := argEnv_lks e
      simp only [Nat.sub_zero] at h2
      have hlt : t < args.length := (List.getElem?_eq_some_iff.1 h2).1
      rw [Array.getElem?_append, if_pos (by simpa using hlt)]
      simpa using h2, fun t p v e => by simp [lkd] at e⟩ hw
  obtain ⟨fr', w', hs, e, M', L', h1, h2, h3, h4, h5⟩ := hrun
  rw [henter]
  exact ⟨e, w', fr', ⟨M', L', h1, h2⟩, h3, hs, h4, h5⟩
theorem TrE.tr {P : Program} {f : FuncId} {args : List Value} {M : Mem} {L : HL} {K : Ending → Mem → HL → Prop} {K' : Value → Mem → HL → Prop} (h : TrE P f args M L K) (hk : ∀ e M' L', K e M' L' → ∃ v, e = .returned v ∧ K' v M' L') : Tr P f args M L K' :=
  ⟨h.1, fun w hw cs => by
    obtain ⟨e, w', fr, ⟨M', L', hp, hK⟩, _, hs, hfn, hl⟩ := h.2 w hw cs
    obtain ⟨v, rfl, hK'⟩ := hk e M' L' hK
    exact ⟨v, w', fr, ⟨M', L', hp, hK'⟩, hs, hfn, hl⟩⟩
theorem Tr.toE {P : Program} {f : FuncId} {args : List Value} {M : Mem} {L : HL} {K : Value → Mem → HL → Prop} (h : Tr P f args M L K) : TrE P f args M L (fun e M' L' => ∃ v, e = .returned v ∧ K v M' L') :=
  ⟨h.1, fun w hw cs => by
    obtain ⟨v, w', fr, ⟨M', L', hp, hK⟩, hs, hfn, hl⟩ := h.2 w hw cs
    exact ⟨.returned v, w', fr, ⟨M', L', hp, v, rfl, hK⟩, by simp, hs, hfn, hl⟩⟩

section
variable {P : Program} {C : Cx} {n : Nat} {k : List Item} {ds : List Deferred} {σ : Env} {δ : Den} {M : Mem} {L : HL} {ops : Array Oper}
theorem run_retX (hro : C.b.roundOf = none) (h : RunX P C n .returning ds σ M L) : Run P C n (.code .ret :: k) ds σ M L := fun a w h1 h2 h3 h4 =>
  J.step (stepR_ret hro) (h a w _ h1 h2 h3 h4)
theorem run_endX (hro : C.b.roundOf = none) (h : RunX P C n .returning ds σ M L) : Run P C n [] ds σ M L := fun a w h1 h2 h3 h4 =>
  J.step (stepR_end hro) (h a w _ h1 h2 h3 h4)
theorem runX_ret {f : FuncId} {fn : Func} {K : Ending → Mem → HL → Prop} {M' : Mem} {L' : HL} (hC : FnCxE P f fn K C) {rs : List ResultVar} {vs : List Value} (hrs : fn.results.toList = rs) (hr : ResOk P M L σ rs vs)
    (hm : ∀ w, Hp M L w → Hp M' L' w) (hk : K (.returned (resVal vs)) M' L') : RunX P C n .returning [] σ M L := fun a w k _ h2 h3 h4 => by
  refine J.done ?_
  rw [hC.phi]
  refine ⟨.returned (resVal vs), M', L', hm w h4, hk, by simp, hC.b, rfl, h2, hC.kind, fn, ?_, ?_⟩
  · show P.funcs[C.b.fn]? = some fn; rw [hC.b]; exact hC.fnn
  · exact results_run h3 h4 (by rw [hrs]; exact hr)
theorem runX_pan {f : FuncId} {fn : Func} {K : Ending → Mem → HL → Prop} {M' : Mem} {L' : HL} {ch : List PanicEntry} (hC : FnCxE P f fn K C)
    (hm : ∀ w, Hp M L w → Hp M' L' w) (hk : K (.panicked ch) M' L') : RunX P C n (.panicking ch) [] σ M L := fun a w k _ h2 _ h4 => by
  refine J.done ?_
  rw [hC.phi]
  refine ⟨.panicked ch, M', L', hm w h4, hk, by simp, hC.b, rfl, h2, fn, ?_⟩
  show P.funcs[C.b.fn]? = some fn; rw [hC.b]; exact hC.fnn
/-- a call of what may panic, in a region in order -/
theorem runL_callE {d : Nat} {ty : TypeId} {pos : String} {aft : Array Edge} {l : List Oper} {f : FuncId} {args : Array Operand} {tys : Array TypeId} {vs : List Value} {K : Ending → Mem → HL → Prop}
    (ha : evs σ δ [] args.toList = some vs) (ht : TrE P f vs M L K) (hd : Nat.blt d n = true) (hn : lkd δ d = none) (hu : unNamed δ d = true)
    (h : ∀ v M' L', K (.returned v) M' L' → RunL P C n ops l k ds ((d, v) :: σ) δ M' L') (hp : ∀ ch M' L', K (.panicked ch) M' L' → RunX P C n (.panicking ch) ds σ M' L') :
    RunL P C n ops (⟨some d, .call ⟨.value (.func f), args, tys⟩, ty, pos, aft, none⟩ :: l) k ds σ δ M L := fun a w idx h1 h2 h3 h4 h5 => by
  cases idx with
  | nil => simp at h5
  | cons i r =>
    simp only [List.map_cons, List.cons.injEq] at h5
    have hg := stepGR_op (P := P) (b := C.b) (k := k) (cs := C.cs) (w := w) (rest := r) (a := a) h5.1 (wanted_none rfl _)
    have hr : ((⟨some d, .call ⟨.value (.func f), args, tys⟩, ty, pos, aft, none⟩ : Oper).semAt C.b.roundOf a.eval).run P w = .ok (.enter f ⟨vs⟩) w := by
      rw [semAt_of (by intro c e; cases e)]
      have e1 : args.map a.eval = ⟨vs⟩ := by apply Array.ext'; simpa using evs_sound h3 (holds_nil a) ha
      simp only [execOp, resolve, e1, Act.eval, Deferred.ofValue, Sem.run_bind, Sem.run_pure, Result.andThen_ok, invoke]
      simpa using ht.1 w
    obtain ⟨e, w'', fr, ⟨M', L', hp', hK⟩, hne, hs, _, hl⟩ := ht.2 w h4 (C.b.atR a (.inRegion ops (i :: r) :: k) :: C.cs)
    have henter : step P (lone (C.b.atR a (.inRegion ops (i :: r) :: k)) C.cs w) =
        .next (lone (Frame.enter P f ⟨vs⟩ .normal) (C.b.atR a (.inRegion ops (i :: r) :: k) :: C.cs) w) :=
      step_lone_go (by rw [hg]; simp [stepG.apply, hr, Frame.atR])
    have hd' : d < a.tmps.size := by rw [h1]; exact Nat.blt_eq.mp hd
    cases e with
    | outgrown => exact absurd rfl hne
    | returned v =>
      have hstep := step_leave_returned (c := C.b.atR a (.inRegion ops (i :: r) :: k)) (cs := C.cs) hl
      rw [finish_op h5.1] at hstep
      exact J.steps (.head henter (hs.trans (.one hstep))) (h v M' L' hK _ w'' r (by rw [put_size]; exact h1) (by rw [put_defers]; exact h2) (h3.put hd' hn hu v) hp' h5.2)
    | panicked ch =>
      have hstep := step_leave_panicked (c := C.b.atR a (.inRegion ops (i :: r) :: k)) (cs := C.cs) hl
      have hra : (C.b.atR a (.inRegion ops (i :: r) :: k)).raise ch = { C.b.atR a (.inRegion ops (i :: r) :: k) with mode := .panicking ch } := by simp [Frame.raise, Frame.atR]
      rw [hra] at hstep
      exact J.steps (.head henter (hs.trans (.one hstep))) (hp ch M' L' hK a w'' _ h1 h2 h3.nil hp')
end
end Go.Chi
namespace Go.Chi

section
variable {P : Program} {C : Cx} {n : Nat} {k : List Item} {ds : List Deferred} {σ : Env} {δ : Den} {M : Mem} {L : HL} {ops : Array Oper}
/-- a call is put off till the end -/
theorem runL_defer {x : Operand} {f : FuncId} {args : Array Operand} {tys : Array TypeId} {first cap : Array Value} {vs : List Value} {ty : TypeId} {pos : String} {aft : Array Edge} {l : List Oper} (hro : C.b.roundOf = none)
    (hx : ev σ δ [] x = some (.func (.func f) first cap)) (ha : evs σ δ [] args.toList = some vs)
    (h : RunL P C n ops l k (⟨.fn (.func f) cap, first ++ ⟨vs⟩⟩ :: ds) σ δ M L) :
    RunL P C n ops (⟨none, .defer ⟨.value x, args, tys⟩, ty, pos, aft, none⟩ :: l) k ds σ δ M L := fun a w idx h1 h2 h3 h4 h5 => by
  cases idx with
  | nil => simp at h5
  | cons i r =>
    simp only [List.map_cons, List.cons.injEq] at h5
    have hg := stepGR_op (P := P) (b := C.b) (k := k) (cs := C.cs) (w := w) (rest := r) (a := a) h5.1 (wanted_none rfl _)
    have hr : ((⟨none, .defer ⟨.value x, args, tys⟩, ty, pos, aft, none⟩ : Oper).semAt C.b.roundOf a.eval).run P w = .ok (.defer ⟨.fn (.func f) cap, first ++ ⟨vs⟩⟩) w := by
      rw [hro]
      have e1 : args.map a.eval = ⟨vs⟩ := by apply Array.ext'; simpa using evs_sound h3 (holds_nil a) ha
      simp [Oper.semAt, execOp, resolve, e1, ev_sound h3 (holds_nil a) hx, Deferred.ofValue]
    have hstep : step P (lone (C.b.atR a (.inRegion ops (i :: r) :: k)) C.cs w) =
        .next (lone (C.b.atR { a with defers := ⟨.fn (.func f) cap, first ++ ⟨vs⟩⟩ :: a.defers } (.inRegion ops r :: k)) C.cs w) := by
      refine step_lone_go ?_
      have hfin := finish_op (b := C.b) (a := { a with defers := ⟨.fn (.func f) cap, first ++ ⟨vs⟩⟩ :: a.defers }) (rest := r) (k := k) h5.1 undef
      simp only [Act.put] at hfin
      rw [hg, ← hfin]
      simp [stepG.apply, hr, Frame.atR]
    refine J.step hstep (h _ w r h1 (by rw [← h2]) ?_ h4 h5.2)
    exact ⟨fun t v e => h3.1 t v e, fun t p v e => h3.2 t p v e⟩
/-- a panic -/
theorem runL_panic {x : Operand} {t : TypeId} {v : Value} {ty : TypeId} {pos : String} {aft : Array Edge} {l : List Oper} (hro : C.b.roundOf = none)
    (hx : ev σ δ [] x = some (.iface t v)) (h : RunX P C n (.panicking [{ v := .iface t v, recovered := false }]) ds σ M L) :
    RunL P C n ops (⟨none, .panic x, ty, pos, aft, none⟩ :: l) k ds σ δ M L := fun a w idx h1 h2 h3 h4 h5 => by
  cases idx with
  | nil => simp at h5
  | cons i r =>
    simp only [List.map_cons, List.cons.injEq] at h5
    have hg := stepGR_op (P := P) (b := C.b) (k := k) (cs := C.cs) (w := w) (rest := r) (a := a) h5.1 (wanted_none rfl _)
    have hr : ((⟨none, .panic x, ty, pos, aft, none⟩ : Oper).semAt C.b.roundOf a.eval).run P w = .halt (.panic (.iface t v)) w := by
      rw [hro]
      simp [Oper.semAt, execOp, ev_sound h3 (holds_nil a) hx, Instr.panic, goPanic]
    have hra : (C.b.atR a (.inRegion ops (i :: r) :: k)).raise [{ v := .iface t v, recovered := false }] = { C.b.atR a (.inRegion ops (i :: r) :: k) with mode := .panicking [{ v := .iface t v, recovered := false }] } := by simp [Frame.raise, Frame.atR]
    have hstep : step P (lone (C.b.atR a (.inRegion ops (i :: r) :: k)) C.cs w) = .next (lone { C.b.atR a (.inRegion ops (i :: r) :: k) with mode := .panicking [{ v := .iface t v, recovered := false }] } C.cs w) := by
      refine step_lone_go ?_
      rw [hg, ← hra]
      simp [stepG.apply, hr]
    exact J.step hstep (h a w _ h1 h2 h3.nil h4)
end

/-! ### a call that was put off -/
/-- the frame below: its function's end is held up -/
def below (C : Cx) (a0 : Act) (k0 : List Item) (u : FrameMode) : Frame := { C.b.atR a0 k0 with mode := u }
/-- a call that was put off, over a frame in the mode u: when it ends, that frame goes on -/
def DCx (P : Program) (f : FuncId) (C : Cx) (a0 : Act) (k0 : List Item) (u : FrameMode) : Cx :=
  ⟨{ (default : Frame) with fn := f, kind := .deferred, roundOf := none }, below C a0 k0 u :: C.cs, fun fr w => ∃ fr' w', Steps P (lone fr (below C a0 k0 u :: C.cs) w) (lone fr' C.cs w') ∧ C.Φ fr' w'⟩
theorem runX_defer {P : Program} {C : Cx} {n : Nat} {ds : List Deferred} {σ : Env} {M : Mem} {L : HL} {u : FrameMode} {f : FuncId} {fn : Func} {c : Code} {cap dargs : Array Value} {args : List Value} (nD : Nat) (hu : u ≠ .run) (hf : P.funcs[f]? = some fn) (hb : fn.body = some c) (hn : fn.ntmps = nD)
    (hc : ∀ args w, (callFunc f args).run P w = .ok (.enter f args) w) (hargs : dargs ++ cap = ⟨args⟩) (ha : Nat.ble args.length nD = true)
    (h : ∀ a0 k0, a0.tmps.size = n → a0.defers = ds → Sees σ [] a0 → Run P (DCx P f C a0 k0 u) nD [.code c] [] (argEnv 0 args) M L) :
    RunX P C n u (⟨.fn (.func f) cap, dargs⟩ :: ds) σ M L := fun a w k h1 h2 h3 h4 => by
  have ha := Nat.le_of_ble_eq_true ha
  have hstep := step_defer (P := P) (fr := { C.b.atR a k with mode := u }) (cs := C.cs) (w := w) (d := ⟨.fn (.func f) cap, dargs⟩) (ds := ds) (f := f) (args := ⟨args⟩) hu h2 rfl (by
    show (callFunc f (dargs ++ cap)).run P w = _
    rw [hargs]; exact hc _ w)
  have henter : Frame.enter P f ⟨args⟩ .deferred = (DCx P f C { a with defers := ds } k u).b.atR { tmps := ⟨args⟩ ++ Array.replicate (nD - args.length) undef, defers := [] } [.code c] := by
    simp [Frame.enter, Frame.atR, hf, hb, hn, DCx]
  have hrun := h { a with defers := ds } k h1 rfl ⟨fun t v e => h3.1 t v e, fun t p v e => h3.2 t p v e⟩ { tmps := ⟨args⟩ ++ Array.replicate (nD - args.length) undef, defers := [] } w (by simp; omega) rfl
    ⟨fun t v e => by
      obtain ⟨_, h2⟩ := argEnv_lks e
      simp only [Nat.sub_zero] at h2
      have hlt : t < args.length := (List.getElem?_eq_some_iff.1 h2).1
      rw [Array.getElem?_append, if_pos (by simpa using hlt)]
      simpa using h2, fun t p v e => by simp [lkd] at e⟩ h4
  obtain ⟨fr1, w1, hs1, fr2, w2, hs2, hphi⟩ := hrun
  rw [← henter] at hs1
  exact ⟨fr2, w2, .head hstep (hs1.trans hs2), hphi⟩
section
variable {P : Program} {C : Cx} {n : Nat} {ds : List Deferred} {σ : Env} {M : Mem} {L : HL} {f : FuncId} {fn : Func} {a0 : Act} {k0 : List Item} {u : FrameMode}
theorem runX_dret {nD : Nat} {σD : Env} (hf : P.funcs[f]? = some fn) (hres : fn.results = #[]) (h1 : a0.tmps.size = n) (h2 : a0.defers = ds) (h3 : Sees σ [] a0) (h : RunX P C n (settle u) ds σ M L) : RunX P (DCx P f C a0 k0 u) nD .returning [] σD M L := fun a w k _ h5 _ h4 => by
  have hgo : Frame.going P { (DCx P f C a0 k0 u).b.atR a k with mode := .returning } w (.returned (.tuple #[])) := ⟨rfl, h5, fn, hf, by simp [results, hres]⟩
  have hstep := step_going_returned (c := below C a0 k0 u) (cs := C.cs) (fr := { (DCx P f C a0 k0 u).b.atR a k with mode := .returning }) rfl hgo
  obtain ⟨fr', w', hs, hphi⟩ := h a0 w k0 h1 h2 h3 h4
  exact J.done ⟨fr', w', .head hstep hs, hphi⟩
theorem runX_dpan {nD : Nat} {σD : Env} {ch : List PanicEntry} (hf : P.funcs[f]? = some fn) (h1 : a0.tmps.size = n) (h2 : a0.defers = ds) (h3 : Sees σ [] a0) (h : RunX P C n (raised u ch) ds σ M L) : RunX P (DCx P f C a0 k0 u) nD (.panicking ch) [] σD M L := fun a w k _ h5 _ h4 => by
  have hgo : Frame.going P { (DCx P f C a0 k0 u).b.atR a k with mode := .panicking ch } w (.panicked ch) := ⟨rfl, h5, fn, hf⟩
  have hstep := step_going_panicked (c := below C a0 k0 u) (cs := C.cs) (fr := { (DCx P f C a0 k0 u).b.atR a k with mode := .panicking ch }) hgo
  obtain ⟨fr', w', hs, hphi⟩ := h a0 w k0 h1 h2 h3 h4
  exact J.done ⟨fr', w', .head hstep hs, hphi⟩
/-- recover, where nothing was thrown -/
theorem runL_recover0 {d nD : Nat} {ty : TypeId} {pos : String} {aft : Array Edge} {l : List Oper} {ops : Array Oper} {k : List Item} {dsD : List Deferred} {σD : Env} {δ : Den} {tys : Array TypeId} (hd : Nat.blt d nD = true) (hn : lkd δ d = none) (hu' : unNamed δ d = true)
    (h : RunL P (DCx P f C a0 k0 .returning) nD ops l k dsD ((d, .nilIface) :: σD) δ M L) : RunL P (DCx P f C a0 k0 .returning) nD ops (⟨some d, .call ⟨.builtin .recover, #[], tys⟩, ty, pos, aft, none⟩ :: l) k dsD σD δ M L := fun a w idx h1 h2 h3 h4 h5 => by
  cases idx with
  | nil => simp at h5
  | cons i r =>
    simp only [List.map_cons, List.cons.injEq] at h5
    have hg := stepGR_op (P := P) (b := (DCx P f C a0 k0 .returning).b) (k := k) (cs := (DCx P f C a0 k0 .returning).cs) (w := w) (rest := r) (a := a) h5.1 (wanted_none rfl _)
    have hr : ((⟨some d, .call ⟨.builtin .recover, #[], tys⟩, ty, pos, aft, none⟩ : Oper).semAt (DCx P f C a0 k0 .returning).b.roundOf a.eval).run P w = .ok .recover w := by
      simp [DCx, Oper.semAt, execOp, resolve, invoke, builtin]
    have htr : tryRecover ((DCx P f C a0 k0 .returning).b.atR a (.inRegion ops (i :: r) :: k)) (DCx P f C a0 k0 .returning).cs = none := by
      rw [tryRecover_deferred rfl]
      simp [DCx, recoverD, below]
    have hstep : step P (lone ((DCx P f C a0 k0 .returning).b.atR a (.inRegion ops (i :: r) :: k)) (DCx P f C a0 k0 .returning).cs w) =
        .next (lone ((DCx P f C a0 k0 .returning).b.atR (a.put (some d) .nilIface) (.inRegion ops r :: k)) (DCx P f C a0 k0 .returning).cs w) := by
      refine step_lone_go ?_
      have hfin := finish_op (b := (DCx P f C a0 k0 .returning).b) (a := a) (rest := r) (k := k) h5.1 .nilIface
      rw [hg, ← hfin]
      have hro : ((DCx P f C a0 k0 .returning).b.atR a (.inRegion ops (i :: r) :: k)).roundOf = none := rfl
      simp [stepG.apply, hr, htr, hro]
    have hd' : d < a.tmps.size := by rw [h1]; exact Nat.blt_eq.mp hd
    exact J.step hstep (h _ w r (by rw [put_size]; exact h1) (by rw [put_defers]; exact h2) (h3.put hd' hn hu' _) h4 h5.2)
/-- recover, of a panic -/
theorem runL_recover {d nD : Nat} {v : Value} {older : List PanicEntry} {ty : TypeId} {pos : String} {aft : Array Edge} {l : List Oper} {ops : Array Oper} {k : List Item} {dsD : List Deferred} {σD : Env} {δ : Den} {tys : Array TypeId} (hd : Nat.blt d nD = true) (hn : lkd δ d = none) (hu' : unNamed δ d = true)
    (h : RunL P (DCx P f C a0 k0 (.panicking ({ v, recovered := true } :: older))) nD ops l k dsD ((d, v) :: σD) δ M L) : RunL P (DCx P f C a0 k0 (.panicking ({ v, recovered := false } :: older))) nD ops (⟨some d, .call ⟨.builtin .recover, #[], tys⟩, ty, pos, aft, none⟩ :: l) k dsD σD δ M L := fun a w idx h1 h2 h3 h4 h5 => by
  cases idx with
  | nil => simp at h5
  | cons i r =>
    simp only [List.map_cons, List.cons.injEq] at h5
    have hg := stepGR_op (P := P) (b := (DCx P f C a0 k0 (.panicking ({ v, recovered := false } :: older))).b) (k := k) (cs := (DCx P f C a0 k0 (.panicking ({ v, recovered := false } :: older))).cs) (w := w) (rest := r) (a := a) h5.1 (wanted_none rfl _)
    have hr : ((⟨some d, .call ⟨.builtin .recover, #[], tys⟩, ty, pos, aft, none⟩ : Oper).semAt (DCx P f C a0 k0 (.panicking ({ v, recovered := false } :: older))).b.roundOf a.eval).run P w = .ok .recover w := by
      simp [DCx, Oper.semAt, execOp, resolve, invoke, builtin]
    have htr : tryRecover ((DCx P f C a0 k0 (.panicking ({ v, recovered := false } :: older))).b.atR a (.inRegion ops (i :: r) :: k)) (DCx P f C a0 k0 (.panicking ({ v, recovered := false } :: older))).cs = some (v, (DCx P f C a0 k0 (.panicking ({ v, recovered := true } :: older))).cs) := by
      rw [tryRecover_deferred rfl]
      simp [DCx, recoverD, below]
    have hstep : step P (lone ((DCx P f C a0 k0 (.panicking ({ v, recovered := false } :: older))).b.atR a (.inRegion ops (i :: r) :: k)) (DCx P f C a0 k0 (.panicking ({ v, recovered := false } :: older))).cs w) =
        .next (lone ((DCx P f C a0 k0 (.panicking ({ v, recovered := false } :: older))).b.atR (a.put (some d) v) (.inRegion ops r :: k)) (DCx P f C a0 k0 (.panicking ({ v, recovered := true } :: older))).cs w) := by
      refine step_lone_go ?_
      have hfin := finish_op (b := (DCx P f C a0 k0 (.panicking ({ v, recovered := false } :: older))).b) (a := a) (rest := r) (k := k) h5.1 v
      have hro : ((DCx P f C a0 k0 (.panicking ({ v, recovered := false } :: older))).b.atR a (.inRegion ops (i :: r) :: k)).roundOf = none := rfl
      rw [hg, ← hfin]
      simp [stepG.apply, hr, htr, hro]
    have hd' : d < a.tmps.size := by rw [h1]; exact Nat.blt_eq.mp hd
    obtain ⟨fr1, w1, hs1, fr2, w2, hs2, hphi⟩ := h _ w r (by rw [put_size]; exact h1) (by rw [put_defers]; exact h2) (h3.put hd' hn hu' _) h4 h5.2
    exact J.done ⟨fr2, w2, .head hstep (hs1.trans hs2), hphi⟩
end
end Go.Chi
namespace Go.Chi
section
variable {P : Program} {T : TT} {ro : Option Nat} {σ : Env} {δ : Den} {cur : Path} {M : Mem} {L : HL} {d : Option Nat} {ty : TypeId} {pos : String} {aft : Array Edge} {g : Option (Nat × Bool)} {v : Value}
theorem qt_makeIface (hT : TOk P T) {t : TypeId} {x : Operand} {fs : Array Field} (hu : und T t = some (.struct fs)) (hx : ev σ δ cur x = some v) :
    Qt P ro ⟨d, .makeInterface t x, ty, pos, aft, g⟩ σ δ cur M L (.iface t v) :=
  qt_of_run (semAt_of (by intro c e; cases e)) fun a w hs hcur hp => by
    simp [execOp, Instr.makeInterface, ev_sound hs hcur hx, run_und hT hu]
theorem qt_assertIs (hT : TOk P T) {s t : TypeId} {x : Operand} {fs : Array Field} (hu : und T t = some (.struct fs)) (hx : ev σ δ cur x = some (.iface t v)) :
    Qt P ro ⟨d, .typeAssert x s t true, ty, pos, aft, g⟩ σ δ cur M L (.tuple ⟨[v, .bool true]⟩) :=
  qt_of_run (semAt_of (by intro c e; cases e)) fun a w hs hcur hp => by
    simp [execOp, Instr.typeAssert, ev_sound hs hcur hx, run_und hT hu]
theorem run_underlying {s : TypeId} {u : TypeDesc} (hu : P.underlying s = some u) (w : World) : (underlying s).run P w = .ok u w := by
  simp [underlying, hu]
theorem eq_nil {s t : TypeId} {ms : Array (String × TypeId)} (hu : P.underlying s = some (.interface ms)) (w : World) : (Op.equal s (.iface t v) .nilIface).run P w = .ok false w := by
  obtain ⟨k, hk⟩ : ∃ k, Op.maxDepth = k + 1 := ⟨_, rfl⟩
  rw [Op.equal, hk]
  simp only [Op.equalIn, Sem.run_bind, run_underlying hu, Result.andThen_ok, Sem.run_pure]
theorem eq_nil0 {s : TypeId} {ms : Array (String × TypeId)} (hu : P.underlying s = some (.interface ms)) (w : World) : (Op.equal s .nilIface .nilIface).run P w = .ok true w := by
  obtain ⟨k, hk⟩ : ∃ k, Op.maxDepth = k + 1 := ⟨_, rfl⟩
  rw [Op.equal, hk]
  simp only [Op.equalIn, Sem.run_bind, run_underlying hu, Result.andThen_ok, Sem.run_pure]
theorem qt_neNil {s t u : TypeId} {x : Operand} {ms : Array (String × TypeId)} (hu : P.underlying s = some (.interface ms)) (hx : ev σ δ cur x = some (.iface t v)) :
    Qt P ro ⟨d, .binOp .neq s x (.const .nilIface) u, ty, pos, aft, g⟩ σ δ cur M L (.bool true) :=
  qt_of_run (semAt_of (by intro c e; cases e)) fun a w hs hcur hp => by
    have hy : a.eval (.const .nilIface) = .nilIface := rfl
    simp [execOp, eqGuard, binOp, ev_sound hs hcur hx, hy, eq_nil hu]
theorem qt_neNil0 {s u : TypeId} {x : Operand} {ms : Array (String × TypeId)} (hu : P.underlying s = some (.interface ms)) (hx : ev σ δ cur x = some .nilIface) :
    Qt P ro ⟨d, .binOp .neq s x (.const .nilIface) u, ty, pos, aft, g⟩ σ δ cur M L (.bool false) :=
  qt_of_run (semAt_of (by intro c e; cases e)) fun a w hs hcur hp => by
    have hy : a.eval (.const .nilIface) = .nilIface := rfl
    simp [execOp, eqGuard, binOp, ev_sound hs hcur hx, hy, eq_nil0 hu]
end
end Go.Chi
namespace Go.Proofs.Ytbpgiodfccijmaa
open Go.Chi

/-! ### what a reading throws -/
def wrongV (e : Int) : Value := .iface 113 (.agg ⟨[.int .i64 e]⟩)
def pan (e : Int) : List PanicEntry := [{ v := wrongV e, recovered := false }]
def mustK (e : Int) (M : Mem) (L : HL) (en : Ending) (M' : Mem) (L' : HL) : Prop := M = M' ∧ L = L' ∧ if e = 0 then en = .returned (.tuple ⟨[]⟩) else en = .panicked (pan e)
theorem must_ok (M : Mem) (L : HL) (e : Int) : TrE Try.prog 59 [.int .i64 e] M L (mustK e M L) := by
  refine TrE.intro 7 Try.func59 rfl rfl Try.call59 rfl ?_
  intro C hC hro
  repeat (first | with_reducible (first | refine cS ?_ | refine cR ?_ | refine cN ?_ | refine cK ?_ | refine cB ?_ | refine cI ?_) | refine cE rfl ?_ | refine rq (qt_pev tok rfl) ?_ | refine rg rfl rfl (qt_pev tok rfl) ?_ | refine rq (ql tok rfl) ?_ | refine rg rfl rfl (ql tok rfl) ?_ | (refine runL_op0 (sst tok rfl rfl rfl rfl rfl) ?_; rintro _ _ _ ⟨rfl, rfl, rfl⟩) | ((first | refine ro (st_box rfl) ?_ | refine ro (st_alloc tok rfl) ?_ | refine ro (st_buildSlice tok rfl rfl rfl rfl rfl rfl rfl) ?_); rintro _ _ _ ⟨_, rfl, rfl, rfl⟩))
  refine run_cond rfl (fun h => ?_) (fun h => ?_)
  · have h0 : e ≠ 0 := by simpa using h
    repeat (first | with_reducible (first | refine cS ?_ | refine cR ?_ | refine cN ?_ | refine cK ?_ | refine cB ?_ | refine cI ?_) | refine cE rfl ?_ | refine rq (qt_pev tok rfl) ?_ | refine rg rfl rfl (qt_pev tok rfl) ?_ | refine rq (ql tok rfl) ?_ | refine rg rfl rfl (ql tok rfl) ?_ | (refine runL_op0 (sst tok rfl rfl rfl rfl rfl) ?_; rintro _ _ _ ⟨rfl, rfl, rfl⟩) | ((first | refine ro (st_box rfl) ?_ | refine ro (st_alloc tok rfl) ?_ | refine ro (st_buildSlice tok rfl rfl rfl rfl rfl rfl rfl) ?_); rintro _ _ _ ⟨_, rfl, rfl, rfl⟩) | refine runL_q (qt_makeIface tok rfl rfl) rfl rfl rfl ?_)
    refine runL_panic hro rfl ?_
    exact runX_pan hC (fun _ h => h) ⟨rfl, rfl, by rw [if_neg h0]; rfl⟩
  · have h0 : e = 0 := by simpa using h
    repeat (first | with_reducible (first | refine cS ?_ | refine cR ?_ | refine cN ?_ | refine cK ?_ | refine cB ?_ | refine cI ?_) | refine cE rfl ?_ | refine rq (qt_pev tok rfl) ?_ | refine rg rfl rfl (qt_pev tok rfl) ?_ | refine rq (ql tok rfl) ?_ | refine rg rfl rfl (ql tok rfl) ?_ | (refine runL_op0 (sst tok rfl rfl rfl rfl rfl) ?_; rintro _ _ _ ⟨rfl, rfl, rfl⟩) | ((first | refine ro (st_box rfl) ?_ | refine ro (st_alloc tok rfl) ?_ | refine ro (st_buildSlice tok rfl rfl rfl rfl rfl rfl rfl) ?_); rintro _ _ _ ⟨_, rfl, rfl, rfl⟩))
    refine run_endX hro ?_
    exact runX_ret hC (rs := []) rfl (vs := []) trivial (fun _ h => h) ⟨rfl, rfl, by rw [if_pos h0]; rfl⟩
theorem caught_ok (M : Mem) (L : HL) (e : Int) : TrQ Try.prog 56 [wrongV e] M L (.int .i64 e) := by
  refine Tr.intro 15 Try.func56 rfl rfl Try.call56 rfl ?_
  intro C hC hro
  repeat (first | with_reducible (first | refine cS ?_ | refine cR ?_ | refine cN ?_ | refine cK ?_ | refine cB ?_ | refine cI ?_) | refine cE rfl ?_ | refine rq (qt_pev tok rfl) ?_ | refine rg rfl rfl (qt_pev tok rfl) ?_ | refine rq (ql tok rfl) ?_ | refine rg rfl rfl (ql tok rfl) ?_ | (refine runL_op0 (sst tok rfl rfl rfl rfl rfl) ?_; rintro _ _ _ ⟨rfl, rfl, rfl⟩) | ((first | refine ro (st_box rfl) ?_ | refine ro (st_alloc tok rfl) ?_ | refine ro (st_buildSlice tok rfl rfl rfl rfl rfl rfl rfl) ?_); rintro _ _ _ ⟨_, rfl, rfl, rfl⟩) | refine runL_q (qt_assertIs tok rfl rfl) rfl rfl rfl ?_)
  refine run_cond rfl (fun h => ?_) (fun h => ?_)
  · simp at h
  · repeat (first | with_reducible (first | refine cS ?_ | refine cR ?_ | refine cN ?_ | refine cK ?_ | refine cB ?_ | refine cI ?_) | refine cE rfl ?_ | refine rq (qt_pev tok rfl) ?_ | refine rg rfl rfl (qt_pev tok rfl) ?_ | refine rq (ql tok rfl) ?_ | refine rg rfl rfl (ql tok rfl) ?_ | (refine runL_op0 (sst tok rfl rfl rfl rfl rfl) ?_; rintro _ _ _ ⟨rfl, rfl, rfl⟩) | ((first | refine ro (st_box rfl) ?_ | refine ro (st_alloc tok rfl) ?_ | refine ro (st_buildSlice tok rfl rfl rfl rfl rfl rfl rfl) ?_); rintro _ _ _ ⟨_, rfl, rfl, rfl⟩))
    exact run_ret hC (rs := [.tmp 2]) rfl (resT rfl resN) (fun _ h => h.drop) ⟨rfl, rfl, rfl⟩
/-- what is left behind a reading: its answer, or why there is none -/
theorem tell_ok (M : Mem) (L : HL) (a b c : Int) : TrQ Try.prog 58 [.int .i64 a, .int .i64 b, .int .i64 c] M L (.tuple ⟨[]⟩) := by
  refine Tr.intro 6 Try.func58 rfl rfl Try.call58 rfl ?_
  intro C hC hro
  repeat (first | with_reducible (first | refine cS ?_ | refine cR ?_ | refine cN ?_ | refine cK ?_ | refine cB ?_ | refine cI ?_) | refine cE rfl ?_ | refine rq (qt_pev tok rfl) ?_ | refine rg rfl rfl (qt_pev tok rfl) ?_ | refine rq (ql tok rfl) ?_ | refine rg rfl rfl (ql tok rfl) ?_ | (refine runL_op0 (sst tok rfl rfl rfl rfl rfl) ?_; rintro _ _ _ ⟨rfl, rfl, rfl⟩) | ((first | refine ro (st_box rfl) ?_ | refine ro (st_alloc tok rfl) ?_ | refine ro (st_buildSlice tok rfl rfl rfl rfl rfl rfl rfl) ?_); rintro _ _ _ ⟨_, rfl, rfl, rfl⟩))
  exact run_end hC (rs := []) rfl (vs := []) trivial (fun _ h => h) ⟨rfl, rfl, rfl⟩
end Go.Proofs.Ytbpgiodfccijmaa
namespace Go.Proofs.Ytbpgiodfccijmaa
open Go.Chi

theorem _root_.Go.Chi.runX_sub {P : Program} {C : Cx} {n : Nat} {u : FrameMode} {ds : List Deferred} {σ σ' : Env} {M : Mem} {L : HL} (h : RunX P C n u ds σ' M L) (hs : subE σ σ') : RunX P C n u ds σ M L :=
  fun a w k h1 h2 h3 h4 => h a w k h1 h2 ⟨fun t v e => h3.1 t v (subE_sound hs t v e), h3.2⟩ h4
theorem uAny : Try.prog.underlying 20 = some (.interface #[]) := by kernel_rfl
def fv (f : Nat) : Value := .func (.func f) ⟨[]⟩ ⟨[]⟩
def walkK (r : Except Int Nat) (M : Mem) (L : HL) (en : Ending) (M' : Mem) (L' : HL) : Prop := M = M' ∧ L = L' ∧ match r with | .ok n => en = .returned (.int .i64 (n : Int)) | .error e => en = .panicked (pan e)
def readR (r : Except Int Nat) : Int × Int := match r with | .ok n => if 16384 < n then (0, 5) else ((n : Int), 0) | .error e => (0, e)
set_option maxRecDepth 10000 in
set_option maxHeartbeats 4000000 in
theorem read_ok (M : Mem) (L : HL) (s : ByteArray) (r : Except Int Nat) (hw : ∀ L, TrE Try.prog 57 [.string s, .int .i64 0, .int .i64 1, fv 58] M L (walkK r M L)) : TrQ Try.prog 40 [.string s] M L (.tuple ⟨[.int .i64 (readR r).1, .int .i64 (readR r).2]⟩) := by
  refine TrE.tr (K := fun en M' L' => en = .returned (.tuple ⟨[.int .i64 (readR r).1, .int .i64 (readR r).2]⟩) ∧ M' = M ∧ L' = L) ?_ (fun e M' L' ⟨h1, h2, h3⟩ => ⟨_, h1, rfl, h2, h3⟩)
  refine TrE.intro 11 Try.func40 rfl rfl Try.call40 rfl ?_
  intro C hC hro
  repeat (first | with_reducible (first | refine cS ?_ | refine cR ?_ | refine cN ?_ | refine cK ?_ | refine cB ?_ | refine cI ?_) | refine cE rfl ?_ | refine rq (qt_pev tok rfl) ?_ | refine rg rfl rfl (qt_pev tok rfl) ?_ | refine rq (ql tok rfl) ?_ | refine rg rfl rfl (ql tok rfl) ?_ | (refine runL_op0 (sst tok rfl rfl rfl rfl rfl) ?_; rintro _ _ _ ⟨rfl, rfl, rfl⟩) | ((first | refine ro (st_box rfl) ?_ | refine ro (st_alloc tok rfl) ?_ | refine ro (st_buildSlice tok rfl rfl rfl rfl rfl rfl rfl) ?_); rintro _ _ _ ⟨_, rfl, rfl, rfl⟩))
  rename_i b2 b3
  have hthrow : ∀ (e x : Int) (y : Int), readR r = (0, e) → RunX Try.prog C 11 (.panicking (pan e)) [⟨.fn (.func 55) ⟨[.pointer (some ⟨b2, 0, none⟩), .pointer (some ⟨b3, 0, none⟩)]⟩, #[]⟩] [(2, .pointer (some ⟨b2, 0, none⟩)), (3, .pointer (some ⟨b3, 0, none⟩))] M ((b3, .cells ⟨[.int .i64 y]⟩ 26 (0, 0)) :: (b2, .cells ⟨[.int .i64 x]⟩ 3 (0, 0)) :: L) := by
    intro e x y hr
    refine runX_defer (args := [.pointer (some ⟨b2, 0, none⟩), .pointer (some ⟨b3, 0, none⟩)]) 8 (by simp) Try.func55 rfl rfl Try.call55 rfl rfl ?_
    intro a0 k0 q1 q2 q3
    refine run_seq ?_
    refine run_region ?_
    refine runL_recover rfl rfl rfl ?_
    repeat (first | with_reducible (first | refine cS ?_ | refine cR ?_ | refine cN ?_ | refine cK ?_ | refine cB ?_ | refine cI ?_) | refine cE rfl ?_ | refine rq (qt_pev tok rfl) ?_ | refine rg rfl rfl (qt_pev tok rfl) ?_ | refine rq (ql tok rfl) ?_ | refine rg rfl rfl (ql tok rfl) ?_ | (refine runL_op0 (sst tok rfl rfl rfl rfl rfl) ?_; rintro _ _ _ ⟨rfl, rfl, rfl⟩) | ((first | refine ro (st_box rfl) ?_ | refine ro (st_alloc tok rfl) ?_ | refine ro (st_buildSlice tok rfl rfl rfl rfl rfl rfl rfl) ?_); rintro _ _ _ ⟨_, rfl, rfl, rfl⟩))
    refine runL_q (qt_neNil (v := .agg ⟨[.int .i64 e]⟩) uAny rfl) rfl rfl rfl ?_
    repeat (first | with_reducible (first | refine cS ?_ | refine cR ?_ | refine cN ?_ | refine cK ?_ | refine cB ?_ | refine cI ?_) | refine cE rfl ?_ | refine rq (qt_pev tok rfl) ?_ | refine rg rfl rfl (qt_pev tok rfl) ?_ | refine rq (ql tok rfl) ?_ | refine rg rfl rfl (ql tok rfl) ?_ | (refine runL_op0 (sst tok rfl rfl rfl rfl rfl) ?_; rintro _ _ _ ⟨rfl, rfl, rfl⟩) | ((first | refine ro (st_box rfl) ?_ | refine ro (st_alloc tok rfl) ?_ | refine ro (st_buildSlice tok rfl rfl rfl rfl rfl rfl rfl) ?_); rintro _ _ _ ⟨_, rfl, rfl, rfl⟩))
    refine run_cond rfl (fun _ => ?_) (fun h => ?_)
    rotate_left
    · cases h
    repeat (first | with_reducible (first | refine cS ?_ | refine cR ?_ | refine cN ?_ | refine cK ?_ | refine cB ?_ | refine cI ?_) | refine cE rfl ?_ | refine rq (qt_pev tok rfl) ?_ | refine rg rfl rfl (qt_pev tok rfl) ?_ | refine rq (ql tok rfl) ?_ | refine rg rfl rfl (ql tok rfl) ?_ | (refine runL_op0 (sst tok rfl rfl rfl rfl rfl) ?_; rintro _ _ _ ⟨rfl, rfl, rfl⟩) | ((first | refine ro (st_box rfl) ?_ | refine ro (st_alloc tok rfl) ?_ | refine ro (st_buildSlice tok rfl rfl rfl rfl rfl rfl rfl) ?_); rintro _ _ _ ⟨_, rfl, rfl, rfl⟩) | refine runL_q (qt_callF rfl (fun _ => caught_ok _ _ e)) rfl rfl rfl ?_)
    refine run_endX rfl ?_
    refine runX_dret Try.func55 rfl q1 q2 q3 ?_
    show RunX _ _ _ .returning _ _ _ _
    refine runX_ret hC (rs := [.cell 2 3, .cell 3 26]) rfl (rl tok rfl (rl tok rfl resN)) (fun _ h => h.drop.drop) ⟨?_, rfl, rfl⟩
    rw [hr]; rfl
  refine runL_defer hro rfl rfl ?_
  repeat (first | with_reducible (first | refine cS ?_ | refine cR ?_ | refine cN ?_ | refine cK ?_ | refine cB ?_ | refine cI ?_) | refine cE rfl ?_ | refine rq (qt_pev tok rfl) ?_ | refine rg rfl rfl (qt_pev tok rfl) ?_ | refine rq (ql tok rfl) ?_ | refine rg rfl rfl (ql tok rfl) ?_ | (refine runL_op0 (sst tok rfl rfl rfl rfl rfl) ?_; rintro _ _ _ ⟨rfl, rfl, rfl⟩) | ((first | refine ro (st_box rfl) ?_ | refine ro (st_alloc tok rfl) ?_ | refine ro (st_buildSlice tok rfl rfl rfl rfl rfl rfl rfl) ?_); rintro _ _ _ ⟨_, rfl, rfl, rfl⟩))
  refine runL_callE rfl (hw _) rfl rfl rfl ?_ ?_
  · rintro v _ _ ⟨rfl, rfl, hv⟩
    cases r with
    | error e => simp at hv
    | ok m =>
      simp only [Ending.returned.injEq] at hv
      subst hv
      repeat (first | with_reducible (first | refine cS ?_ | refine cR ?_ | refine cN ?_ | refine cK ?_ | refine cB ?_ | refine cI ?_) | refine cE rfl ?_ | refine rq (qt_pev tok rfl) ?_ | refine rg rfl rfl (qt_pev tok rfl) ?_ | refine rq (ql tok rfl) ?_ | refine rg rfl rfl (ql tok rfl) ?_ | (refine runL_op0 (sst tok rfl rfl rfl rfl rfl) ?_; rintro _ _ _ ⟨rfl, rfl, rfl⟩) | ((first | refine ro (st_box rfl) ?_ | refine ro (st_alloc tok rfl) ?_ | refine ro (st_buildSlice tok rfl rfl rfl rfl rfl rfl rfl) ?_); rintro _ _ _ ⟨_, rfl, rfl, rfl⟩))
      refine run_cond rfl (fun h => ?_) (fun h => ?_)
      · have hm : 16384 < m := by simp at h; omega
        repeat (first | with_reducible (first | refine cS ?_ | refine cR ?_ | refine cN ?_ | refine cK ?_ | refine cB ?_ | refine cI ?_) | refine cE rfl ?_ | refine rq (qt_pev tok rfl) ?_ | refine rg rfl rfl (qt_pev tok rfl) ?_ | refine rq (ql tok rfl) ?_ | refine rg rfl rfl (ql tok rfl) ?_ | (refine runL_op0 (sst tok rfl rfl rfl rfl rfl) ?_; rintro _ _ _ ⟨rfl, rfl, rfl⟩) | ((first | refine ro (st_box rfl) ?_ | refine ro (st_alloc tok rfl) ?_ | refine ro (st_buildSlice tok rfl rfl rfl rfl rfl rfl rfl) ?_); rintro _ _ _ ⟨_, rfl, rfl, rfl⟩))
        refine runL_callE rfl (must_ok _ _ 5) rfl rfl rfl ?_ ?_
        · rintro v _ _ ⟨_, _, hv⟩
          simp at hv
        · rintro ch _ _ ⟨rfl, rfl, hv⟩
          simp only [show ¬ (5 : Int) = 0 by decide, if_false, Ending.panicked.injEq] at hv
          subst hv
          exact runX_sub (hthrow 5 (m : Int) 0 (by simp only [readR, if_pos hm])) ⟨rfl, rfl, trivial⟩
      · have hm : ¬ 16384 < m := by simp at h; omega
        repeat (first | with_reducible (first | refine cS ?_ | refine cR ?_ | refine cN ?_ | refine cK ?_ | refine cB ?_ | refine cI ?_) | refine cE rfl ?_ | refine rq (qt_pev tok rfl) ?_ | refine rg rfl rfl (qt_pev tok rfl) ?_ | refine rq (ql tok rfl) ?_ | refine rg rfl rfl (ql tok rfl) ?_ | (refine runL_op0 (sst tok rfl rfl rfl rfl rfl) ?_; rintro _ _ _ ⟨rfl, rfl, rfl⟩) | ((first | refine ro (st_box rfl) ?_ | refine ro (st_alloc tok rfl) ?_ | refine ro (st_buildSlice tok rfl rfl rfl rfl rfl rfl rfl) ?_); rintro _ _ _ ⟨_, rfl, rfl, rfl⟩))
        refine run_retX hro ?_
        refine runX_sub (σ' := [(2, .pointer (some ⟨b2, 0, none⟩)), (3, .pointer (some ⟨b3, 0, none⟩))]) ?_ ⟨rfl, rfl, trivial⟩
        refine runX_defer (args := [.pointer (some ⟨b2, 0, none⟩), .pointer (some ⟨b3, 0, none⟩)]) 8 (by simp) Try.func55 rfl rfl Try.call55 rfl rfl ?_
        intro a0 k0 q1 q2 q3
        refine run_seq ?_
        refine run_region ?_
        refine runL_recover0 rfl rfl rfl ?_
        repeat (first | with_reducible (first | refine cS ?_ | refine cR ?_ | refine cN ?_ | refine cK ?_ | refine cB ?_ | refine cI ?_) | refine cE rfl ?_ | refine rq (qt_pev tok rfl) ?_ | refine rg rfl rfl (qt_pev tok rfl) ?_ | refine rq (ql tok rfl) ?_ | refine rg rfl rfl (ql tok rfl) ?_ | (refine runL_op0 (sst tok rfl rfl rfl rfl rfl) ?_; rintro _ _ _ ⟨rfl, rfl, rfl⟩) | ((first | refine ro (st_box rfl) ?_ | refine ro (st_alloc tok rfl) ?_ | refine ro (st_buildSlice tok rfl rfl rfl rfl rfl rfl rfl) ?_); rintro _ _ _ ⟨_, rfl, rfl, rfl⟩) | refine runL_q (qt_neNil0 uAny rfl) rfl rfl rfl ?_)
        refine run_cond rfl (fun h => ?_) (fun _ => ?_)
        · cases h
        repeat (first | with_reducible (first | refine cS ?_ | refine cR ?_ | refine cN ?_ | refine cK ?_ | refine cB ?_ | refine cI ?_) | refine cE rfl ?_ | refine rq (qt_pev tok rfl) ?_ | refine rg rfl rfl (qt_pev tok rfl) ?_ | refine rq (ql tok rfl) ?_ | refine rg rfl rfl (ql tok rfl) ?_ | (refine runL_op0 (sst tok rfl rfl rfl rfl rfl) ?_; rintro _ _ _ ⟨rfl, rfl, rfl⟩) | ((first | refine ro (st_box rfl) ?_ | refine ro (st_alloc tok rfl) ?_ | refine ro (st_buildSlice tok rfl rfl rfl rfl rfl rfl rfl) ?_); rintro _ _ _ ⟨_, rfl, rfl, rfl⟩))
        refine run_endX rfl ?_
        refine runX_dret Try.func55 rfl q1 q2 q3 ?_
        show RunX _ _ _ .returning _ _ _ _
        refine runX_ret hC (rs := [.cell 2 3, .cell 3 26]) rfl (rl tok rfl (rl tok rfl resN)) (fun _ h => h.drop.drop) ⟨?_, rfl, rfl⟩
        simp only [readR, if_neg hm]
        rfl
  · rintro ch _ _ ⟨rfl, rfl, hv⟩
    cases r with
    | ok m => simp at hv
    | error e =>
      simp only [Ending.panicked.injEq] at hv
      subst hv
      exact runX_sub (hthrow e 0 0 rfl) ⟨rfl, rfl, trivial⟩
end Go.Proofs.Ytbpgiodfccijmaa
namespace Go.Chi
section
variable {P : Program} {T : TT} {ro : Option Nat} {σ : Env} {δ : Den} {cur : Path} {M : Mem} {L : HL} {d : Option Nat} {ty : TypeId} {pos : String} {aft : Array Edge} {g : Option (Nat × Bool)}
theorem qt_strIndex (hT : TOk P T) {t : TypeId} {x y : Operand} {s : ByteArray} {k : IntKind} {n : Nat} {b : UInt8} (hu : und T t = some .string) (hx : ev σ δ cur x = some (.string s)) (hy : ev σ δ cur y = some (.int k (n : Int))) (hb : Hy σ δ cur → s[n]? = some b) :
    Qt P ro ⟨d, .index t x y, ty, pos, aft, g⟩ σ δ cur M L (.int .u8 (b.toNat : Int)) :=
  qt_of_run (semAt_of (by intro c e; cases e)) fun a w hs hcur hp => by
    have h := hb (Hy_of hs hcur)
    simp [execOp, Instr.index, ev_sound hs hcur hx, ev_sound hs hcur hy, asIntOf, run_und hT hu, h]
theorem qt_strLo (hT : TOk P T) {t : TypeId} {x y : Operand} {s : ByteArray} {k : IntKind} {n : Nat} (hu : und T t = some .string) (hx : ev σ δ cur x = some (.string s)) (hy : ev σ δ cur y = some (.int k (n : Int))) (hb : Hy σ δ cur → n ≤ s.size) :
    Qt P ro ⟨d, .slice t x (some y) none none, ty, pos, aft, g⟩ σ δ cur M L (.string (s.extract n s.size)) :=
  qt_of_run (semAt_of (by intro c e; cases e)) fun a w hs hcur hp => by
    have h := hb (Hy_of hs hcur)
    simp [execOp, Instr.sliceAt, Instr.slice, Instr.sliceBounds, Instr.sliceBound, ev_sound hs hcur hx, ev_sound hs hcur hy, asIntOf, run_und hT hu, h]
theorem qt_strHi (hT : TOk P T) {t : TypeId} {x y : Operand} {s : ByteArray} {k : IntKind} {n : Nat} (hu : und T t = some .string) (hx : ev σ δ cur x = some (.string s)) (hy : ev σ δ cur y = some (.int k (n : Int))) (hb : Hy σ δ cur → n ≤ s.size) :
    Qt P ro ⟨d, .slice t x none (some y) none, ty, pos, aft, g⟩ σ δ cur M L (.string (s.extract 0 n)) :=
  qt_of_run (semAt_of (by intro c e; cases e)) fun a w hs hcur hp => by
    have h := hb (Hy_of hs hcur)
    simp [execOp, Instr.sliceAt, Instr.slice, Instr.sliceBounds, Instr.sliceBound, ev_sound hs hcur hx, ev_sound hs hcur hy, asIntOf, run_und hT hu, h]
theorem qt_strMid (hT : TOk P T) {t : TypeId} {x y z : Operand} {s : ByteArray} {k k' : IntKind} {m n : Nat} (hu : und T t = some .string) (hx : ev σ δ cur x = some (.string s)) (hy : ev σ δ cur y = some (.int k (m : Int))) (hz : ev σ δ cur z = some (.int k' (n : Int))) (hb : Hy σ δ cur → m ≤ n ∧ n ≤ s.size) :
    Qt P ro ⟨d, .slice t x (some y) (some z) none, ty, pos, aft, g⟩ σ δ cur M L (.string (s.extract m n)) :=
  qt_of_run (semAt_of (by intro c e; cases e)) fun a w hs hcur hp => by
    have h := hb (Hy_of hs hcur)
    simp [execOp, Instr.sliceAt, Instr.slice, Instr.sliceBounds, Instr.sliceBound, ev_sound hs hcur hx, ev_sound hs hcur hy, ev_sound hs hcur hz, asIntOf, run_und hT hu, h]
end
end Go.Chi
namespace Go.Chi
section
variable {P : Program} {C : Cx} {n : Nat} {k : List Item} {ds : List Deferred} {σ : Env} {δ : Den} {M : Mem} {L : HL} {ops : Array Oper} {D X : List Nat}

/-- a slot's bool becomes known -/
theorem Sees.known {a : Act} (h : Sees σ δ a) {s : Nat} {b c : Bool} (hs : lks σ s = some (.bool c)) (hc : c = b) : Sees ((s, .bool b) :: σ) δ a :=
  ⟨fun t v e => by
    rw [lks_cons] at e
    split at e
    · rename_i he; cases e; subst he; subst hc; exact h.s _ _ hs
    · exact h.s _ _ e, h.d⟩
theorem pr_known (s : Nat) (b : Bool) {c : Bool} (hs : lks σ s = some (.bool c)) (hc : c = b) (h : PR P C n ops k ds D X ((s, .bool b) :: σ) δ M L) : PR P C n ops k ds D X σ δ M L :=
  fun a â w listed fuel t hst => h a â w listed fuel t { hst with sees := hst.sees.known hs hc }
/-- any value becomes known in another form -/
theorem Sees.asV {a : Act} (h : Sees σ δ a) {s : Nat} {u v : Value} (hs : lks σ s = some u) (hc : u = v) : Sees ((s, v) :: σ) δ a :=
  ⟨fun t v e => by
    rw [lks_cons] at e
    split at e
    · rename_i he; cases e; subst he; subst hc; exact h.s _ _ hs
    · exact h.s _ _ e, h.d⟩
theorem pr_as (s : Nat) (v : Value) {u : Value} (hs : lks σ s = some u) (hc : u = v) (h : PR P C n ops k ds D X ((s, v) :: σ) δ M L) : PR P C n ops k ds D X σ δ M L :=
  fun a â w listed fuel t hst => h a â w listed fuel t { hst with sees := hst.sees.asV hs hc }
theorem runL_as {l : List Oper} (s : Nat) (v : Value) {u : Value} (hs : lks σ s = some u) (hc : u = v) (h : RunL P C n ops l k ds ((s, v) :: σ) δ M L) : RunL P C n ops l k ds σ δ M L :=
  fun a w idx h1 h2 h3 h4 h5 => h a w idx h1 h2 (h3.asV hs hc) h4 h5
theorem run_as (s : Nat) (v : Value) {u : Value} (hs : lks σ s = some u) (hc : u = v) (h : Run P C n k ds ((s, v) :: σ) M L) : Run P C n k ds σ M L :=
  fun a w h1 h2 h3 h4 => h a w h1 h2 (h3.asV hs hc) h4
/-- a quiet operation whose guard is known to hold -/
theorem pr_gK (i : Nat) {d : Nat} {op : Op} {ty : TypeId} {pos : String} {aft : Array Edge} {v : Value} {j s : Nat} {want : Bool} (hchk : chkQ ops D i = true) (ho : ops[i]? = some ⟨some d, op, ty, pos, aft, some (j, want)⟩)
    (hj : slotOf ops j = some s) (hg : knows σ s want = true)
    (hq : Qt P C.b.roundOf ⟨some d, op, ty, pos, aft, some (j, want)⟩ σ δ [] M L v) (hd : Nat.blt d n = true) (hn : lkd δ d = none) (hu : unNamed δ d = true)
    (h : PR P C n ops k ds (i :: D) X ((d, v) :: σ) δ M L) : PR P C n ops k ds D X σ δ M L := fun a â w listed fuel t hst => by
  have hsl : slotOf ops i = some d := by rw [slot_of ho]
  have hd' := Nat.blt_eq.mp hd
  have hdn : d < â.tmps.size := by rw [hst.hn]; exact hd'
  obtain ⟨hpl, hself⟩ := chkQ_parts hchk hsl
  have hlk : looks ops i = Oper.looksAt ops ⟨some d, op, ty, pos, aft, some (j, want)⟩ := by unfold looks; rw [ho]
  have hpl' : plainOp op = true := by unfold plainAt at hpl; rw [ho] at hpl; exact hpl
  have hw := knows_sound hst.sees hg
  have hag := self_agree (ops := ops) (i := i) hdn hself v
  have hwant : Region.wanted ⟨some d, op, ty, pos, aft, some (j, want)⟩ (yielded ops (â.put (some d) v).tmps) = true := by
    rw [wanted_agree (ops := ops) (a' := â) (by rw [← hlk]; exact hag)]
    simp only [Region.wanted]; exact beq_some_bool.2 ((yielded_some hj).2 hw)
  refine h a (â.put (some d) v) w listed fuel t (hst.add hchk hsl hd' (hst.sees.put hdn hn hu v) ?_)
  refine ⟨_, d, ho, rfl, hpl', fun _ => ⟨v, by rw [put_get hdn, if_pos rfl], fun w' hw' => ?_⟩, fun hx => by rw [hwant] at hx; cases hx⟩
  have := hq â w' hst.sees (holds_nil _) hw'
  have := this.mono (K' := fun u w' => u = v ∧ Hp M L w') fun u w'' ⟨M', L', h1, h2, h3, h4⟩ => ⟨h2, by subst h3 h4; exact h1⟩
  unfold OpWp at this ⊢
  rw [sem_agree (ops := ops) (a := â.put (some d) v) (a' := â) hpl' (by rw [← hlk]; exact hag)]
  exact this
theorem prn_gK {i d : Nat} {op : Op} {ty : TypeId} {pos : String} {aft : Array Edge} {v : Value} {j s : Nat} {want : Bool} (ho : ops[i]? = some ⟨some d, op, ty, pos, aft, some (j, want)⟩)
    (hj : slotOf ops j = some s) (hg : knows σ s want = true)
    (hq : Qt P C.b.roundOf ⟨some d, op, ty, pos, aft, some (j, want)⟩ σ δ [] M L v) (hchk : chkQ ops (dn i) i = true) (hd : Nat.blt d n = true) (hn : lkd δ d = none) (hu : unNamed δ d = true)
    (h : PR P C n ops k ds (dn (i + 1)) X ((d, v) :: σ) δ M L) : PR P C n ops k ds (dn i) X σ δ M L := pr_gK i hchk ho hj hg hq hd hn hu h
/-- the same in a region in the order of the text -/
theorem runL_gK {d : Nat} {op : Op} {ty : TypeId} {pos : String} {aft : Array Edge} {l : List Oper} {v : Value} {j s : Nat} {want : Bool}
    (hj : slotOf ops j = some s) (hg : knows σ s want = true)
    (hst : Qt P C.b.roundOf ⟨some d, op, ty, pos, aft, some (j, want)⟩ σ δ [] M L v) (hd : Nat.blt d n = true) (hn : lkd δ d = none) (hu : unNamed δ d = true)
    (h : RunL P C n ops l k ds ((d, v) :: σ) δ M L) : RunL P C n ops (⟨some d, op, ty, pos, aft, some (j, want)⟩ :: l) k ds σ δ M L :=
  runL_gT hj hg hst hd hn hu fun v' M' L' ⟨e1, e2, e3⟩ => by subst e1 e2 e3; exact h
end
theorem SrcG.ofSlM {M : Mem} {L : HL} {size : Nat} {a : Option Addr} {n c : Nat} {ls : List (List Value)} (h : SlM M size a n ls) : SrcG M L size (.slice a n c) n ls.flatten := by
  obtain ⟨h1, h2, h3⟩ := h
  have flen : ∀ (l : List (List Value)), (∀ x ∈ l, x.length = size) → l.flatten.length = l.length * size := by
    intro l hl'
    induction l with
    | nil => simp
    | cons x l ih => rw [List.flatten_cons, List.length_append, hl' x (by simp), ih (fun y hy => hl' y (List.mem_cons_of_mem _ hy)), List.length_cons, Nat.add_mul]; omega
  rcases h3 with rfl | ⟨b, off, rfl, hcell⟩
  · simp only [List.length_nil] at h1
    subst h1
    exact .inl ⟨a, c, rfl, rfl, rfl⟩
  · by_cases h0 : n = 0
    · subst h0
      have : ls = [] := List.length_eq_zero_iff.1 h1
      subst this
      exact .inl ⟨_, c, rfl, rfl, rfl⟩
    · refine .inr ⟨b, off, c, rfl, ?_, by rw [flen ls h2, h1]⟩
      -- one block holds them all
      have hpos : 0 < ls.length := by omega
      obtain ⟨cs, t, fz, hb, _⟩ := hcell 0 _ (List.getElem?_eq_getElem hpos)
      have hb' : M.blk b = some (.cells cs t fz) := by
        rcases hb with hb | hb
        · cases hb
        · exact hb
      refine ⟨cs, t, fz, .inr hb', fun i v hv => ?_⟩
      have hsz : 0 < size := by
        rcases Nat.eq_zero_or_pos size with h | h
        · subst h
          have := (List.getElem?_eq_some_iff.1 hv).1
          rw [flen ls h2] at this
          simp at this
        · exact h
      have hil : i < ls.length * size := by have := (List.getElem?_eq_some_iff.1 hv).1; rwa [flen ls h2] at this
      have hq : i / size < ls.length := (Nat.div_lt_iff_lt_mul hsz).2 hil
      have hm : i % size < size := Nat.mod_lt _ hsz
      have hlen := h2 _ (List.getElem_mem hq)
      have h4 := flat_at h2 (List.getElem?_eq_getElem hq) (List.getElem?_eq_getElem (show i % size < (ls[i / size]).length by omega))
      rw [Nat.mul_comm, Nat.div_add_mod, hv] at h4
      obtain ⟨cs', t', fz', hb2, hc2⟩ := hcell (i / size) _ (List.getElem?_eq_getElem hq)
      have hb2' : M.blk b = some (.cells cs' t' fz') := by
        rcases hb2 with hb2 | hb2
        · cases hb2
        · exact hb2
      rw [hb'] at hb2'
      injection hb2' with e
      injection e with e1
      have h5 := hc2 (i % size) v (by rw [List.getElem?_eq_getElem (show i % size < (ls[i / size]).length by omega)]; exact h4.symm)
      rw [← e1] at h5
      rw [← h5]
      congr 1
      have := Nat.div_add_mod i size
      rw [Nat.mul_comm] at this
      omega
end Go.Chi
namespace Go.Proofs.Ytbpgiodfccijmaa
open Go.Chi

/-! ### numbers -/
def byte (s : ByteArray) (i : Nat) : Int := (((s[i]?).getD 0).toNat : Int)
def numV (s : ByteArray) : Nat → Int
  | 0 => 0
  | i + 1 => ior .u64 (ishl .u64 (numV s i) 8) (IntKind.u64.wrap (byte s i))
theorem byte_at {s : ByteArray} {i : Nat} (h : i < s.size) : ∃ b : UInt8, s[i]? = some b ∧ byte s i = (b.toNat : Int) := by
  have hx : s[i]? = some s[i] := by simp [h]
  exact ⟨_, hx, by rw [byte, hx]; rfl⟩
theorem empty_beq (s : ByteArray) : (s.toList == (⟨#[]⟩ : ByteArray).toList) = decide (s.size = 0) := by
  rw [bytes_beq, Bool.eq_iff_iff, decide_eq_true_eq, decide_eq_true_eq]
  constructor
  · rintro rfl; rfl
  · intro h0
    cases s with | mk d => simp [ByteArray.size] at h0; subst h0; rfl
theorem u64_byte (b : UInt8) : IntKind.u64.wrap (b.toNat : Int) = (b.toNat : Int) := by
  have := b.toNat_lt
  simp only [IntKind.wrap, IntKind.signed, IntKind.bits]
  simp
  omega
def rest1 (s : ByteArray) : ByteArray := s.extract 1 s.size
/-- a number at the front: what it is, how many bytes it has, or why there is none -/
def numR (s : ByteArray) : Int × Int × Int :=
  if s.size = 0 then (0, 0, 6) else
  if byte s 0 ≤ 247 then (byte s 0, 1, 0) else
  if ((rest1 s).size : Int) < byte s 0 - 247 then (0, 0, 6) else
  if byte (rest1 s) 0 = 0 ∨ numV (rest1 s) (byte s 0 - 247).toNat ≤ 247 then (0, 0, 7) else (numV (rest1 s) (byte s 0 - 247).toNat, byte s 0 - 247 + 1, 0)
set_option maxHeartbeats 4000000 in
theorem readNum_ok (M : Mem) (L : HL) (s : ByteArray) : TrQ Try.prog 72 [.string s] M L (.tuple ⟨[.int .u64 (numR s).1, .int .i64 (numR s).2.1, .int .i64 (numR s).2.2]⟩) := by
  refine Tr.intro 46 Try.func72 rfl rfl Try.call72 rfl ?_
  intro C hC hro
  repeat (first | with_reducible (first | refine cS ?_ | refine cR ?_ | refine cN ?_ | refine cK ?_ | refine cB ?_ | refine cI ?_) | refine cE rfl ?_ | refine rq (qt_pev tok rfl) ?_ | refine rg rfl rfl (qt_pev tok rfl) ?_ | refine rq (ql tok rfl) ?_ | refine rg rfl rfl (ql tok rfl) ?_ | (refine runL_op0 (sst tok rfl rfl rfl rfl rfl) ?_; rintro _ _ _ ⟨rfl, rfl, rfl⟩) | ((first | refine ro (st_box rfl) ?_ | refine ro (st_alloc tok rfl) ?_ | refine ro (st_buildSlice tok rfl rfl rfl rfl rfl rfl rfl) ?_); rintro _ _ _ ⟨_, rfl, rfl, rfl⟩))
  refine run_cond rfl (fun h => ?_) (fun h => ?_)
  · repeat (first | with_reducible (first | refine cS ?_ | refine cR ?_ | refine cN ?_ | refine cK ?_ | refine cB ?_ | refine cI ?_) | refine cE rfl ?_ | refine rq (qt_pev tok rfl) ?_ | refine rg rfl rfl (qt_pev tok rfl) ?_ | refine rq (ql tok rfl) ?_ | refine rg rfl rfl (ql tok rfl) ?_ | (refine runL_op0 (sst tok rfl rfl rfl rfl rfl) ?_; rintro _ _ _ ⟨rfl, rfl, rfl⟩) | ((first | refine ro (st_box rfl) ?_ | refine ro (st_alloc tok rfl) ?_ | refine ro (st_buildSlice tok rfl rfl rfl rfl rfl rfl rfl) ?_); rintro _ _ _ ⟨_, rfl, rfl, rfl⟩))
    exact run_ret hC (rs := [.tmp 2, .tmp 3, .tmp 4]) rfl (resT rfl (resT rfl (resT rfl resN))) (fun _ h => h) ⟨by rw [empty_beq, decide_eq_true_eq] at h; rw [numR, if_pos h]; rfl, rfl, rfl⟩
  rw [empty_beq, decide_eq_false_iff_not] at h
  have hs : 0 < s.size := by omega
  obtain ⟨b0, hb0, hb0'⟩ := byte_at hs
  repeat (first | with_reducible (first | refine cS ?_ | refine cR ?_ | refine cN ?_ | refine cK ?_ | refine cB ?_ | refine cI ?_) | refine cE rfl ?_ | refine rq (qt_pev tok rfl) ?_ | refine rg rfl rfl (qt_pev tok rfl) ?_ | refine rq (ql tok rfl) ?_ | refine rg rfl rfl (ql tok rfl) ?_ | (refine runL_op0 (sst tok rfl rfl rfl rfl rfl) ?_; rintro _ _ _ ⟨rfl, rfl, rfl⟩) | ((first | refine ro (st_box rfl) ?_ | refine ro (st_alloc tok rfl) ?_ | refine ro (st_buildSlice tok rfl rfl rfl rfl rfl rfl rfl) ?_); rintro _ _ _ ⟨_, rfl, rfl, rfl⟩) | refine runL_q (qt_strIndex (n := 0) tok rfl rfl rfl (fun _ => hb0)) rfl rfl rfl ?_)
  refine run_cond rfl (fun h1 => ?_) (fun h1 => ?_)
  · have h2 : byte s 0 ≤ 247 := by rw [hb0']; simpa using h1
    repeat (first | with_reducible (first | refine cS ?_ | refine cR ?_ | refine cN ?_ | refine cK ?_ | refine cB ?_ | refine cI ?_) | refine cE rfl ?_ | refine rq (qt_pev tok rfl) ?_ | refine rg rfl rfl (qt_pev tok rfl) ?_ | refine rq (ql tok rfl) ?_ | refine rg rfl rfl (ql tok rfl) ?_ | (refine runL_op0 (sst tok rfl rfl rfl rfl rfl) ?_; rintro _ _ _ ⟨rfl, rfl, rfl⟩) | ((first | refine ro (st_box rfl) ?_ | refine ro (st_alloc tok rfl) ?_ | refine ro (st_buildSlice tok rfl rfl rfl rfl rfl rfl rfl) ?_); rintro _ _ _ ⟨_, rfl, rfl, rfl⟩) | refine runL_q (qt_strIndex (n := 0) tok rfl rfl rfl (fun _ => hb0)) rfl rfl rfl ?_)
    refine run_ret hC (rs := [.tmp 2, .tmp 3, .tmp 4]) rfl (resT rfl (resT rfl (resT rfl resN))) (fun _ h => h) ⟨?_, rfl, rfl⟩
    rw [numR, if_neg h, if_pos h2, hb0', u64_byte]
    rfl
  have h2 : ¬ byte s 0 ≤ 247 := by rw [hb0']; simpa using h1
  obtain ⟨k, hk⟩ : ∃ k : Nat, k = b0.toNat - 247 := ⟨_, rfl⟩
  have hb0n : 247 < b0.toNat := by rw [hb0'] at h2; omega
  have hlt := b0.toNat_lt
  have hkv : IntKind.i64.wrap (IntKind.i64.wrap (b0.toNat : Int) - 247) = (k : Int) := by
    rw [wrap64_nat (by omega), show (b0.toNat : Int) - 247 = (k : Int) by omega, wrap64_nat (by omega)]
  repeat (first | with_reducible (first | refine cS ?_ | refine cR ?_ | refine cN ?_ | refine cK ?_ | refine cB ?_ | refine cI ?_) | refine cE rfl ?_ | refine rq (qt_pev tok rfl) ?_ | refine rg rfl rfl (qt_pev tok rfl) ?_ | refine rq (ql tok rfl) ?_ | refine rg rfl rfl (ql tok rfl) ?_ | (refine runL_op0 (sst tok rfl rfl rfl rfl rfl) ?_; rintro _ _ _ ⟨rfl, rfl, rfl⟩) | ((first | refine ro (st_box rfl) ?_ | refine ro (st_alloc tok rfl) ?_ | refine ro (st_buildSlice tok rfl rfl rfl rfl rfl rfl rfl) ?_); rintro _ _ _ ⟨_, rfl, rfl, rfl⟩) | refine runL_q (qt_strIndex (n := 0) tok rfl rfl rfl (fun _ => hb0)) rfl rfl rfl ?_ | refine runL_q (qt_strLo (n := 1) tok rfl rfl rfl (fun _ => hs)) rfl rfl rfl ?_)
  have hkb : byte s 0 - 247 = (k : Int) := by rw [hb0']; omega
  refine run_cond rfl (fun h3 => ?_) (fun h3 => ?_)
  · rw [hkv] at h3
    repeat (first | with_reducible (first | refine cS ?_ | refine cR ?_ | refine cN ?_ | refine cK ?_ | refine cB ?_ | refine cI ?_) | refine cE rfl ?_ | refine rq (qt_pev tok rfl) ?_ | refine rg rfl rfl (qt_pev tok rfl) ?_ | refine rq (ql tok rfl) ?_ | refine rg rfl rfl (ql tok rfl) ?_ | (refine runL_op0 (sst tok rfl rfl rfl rfl rfl) ?_; rintro _ _ _ ⟨rfl, rfl, rfl⟩) | ((first | refine ro (st_box rfl) ?_ | refine ro (st_alloc tok rfl) ?_ | refine ro (st_buildSlice tok rfl rfl rfl rfl rfl rfl rfl) ?_); rintro _ _ _ ⟨_, rfl, rfl, rfl⟩))
    refine run_ret hC (rs := [.tmp 2, .tmp 3, .tmp 4]) rfl (resT rfl (resT rfl (resT rfl resN))) (fun _ h => h) ⟨?_, rfl, rfl⟩
    have h4 : ((rest1 s).size : Int) < (k : Int) := of_decide_eq_true h3
    rw [numR, if_neg h, if_neg h2, hkb, if_pos h4]
    rfl
  rw [hkv] at h3
  have h4 : ¬ ((rest1 s).size : Int) < (k : Int) := of_decide_eq_false h3
  have h4' : k ≤ (rest1 s).size := by omega
  refine run_as 3 (.int .i64 (k : Int)) rfl (by rw [hkv]) ?_
  refine run_as 0 (.string (rest1 s)) rfl rfl ?_
  repeat (first | with_reducible (first | refine cS ?_ | refine cR ?_ | refine cN ?_ | refine cK ?_ | refine cB ?_ | refine cI ?_) | refine cE rfl ?_ | refine rq (qt_pev tok rfl) ?_ | refine rg rfl rfl (qt_pev tok rfl) ?_ | refine rq (ql tok rfl) ?_ | refine rg rfl rfl (ql tok rfl) ?_ | (refine runL_op0 (sst tok rfl rfl rfl rfl rfl) ?_; rintro _ _ _ ⟨rfl, rfl, rfl⟩) | ((first | refine ro (st_box rfl) ?_ | refine ro (st_alloc tok rfl) ?_ | refine ro (st_buildSlice tok rfl rfl rfl rfl rfl rfl rfl) ?_); rintro _ _ _ ⟨_, rfl, rfl, rfl⟩))
  refine run_loopN (fun i σ1 M1 L1 => i ≤ k ∧ σ1 = [(25, .int .i64 (i : Int)), (24, .int .i64 (k : Int)), (2, .int .u64 (numV (rest1 s) i)), (3, .int .i64 (k : Int)), (0, .string (rest1 s))] ∧ M = M1 ∧ L = L1) k [(25, .int .i64 ((0 : Nat) : Int)), (24, .int .i64 (k : Int)), (2, .int .u64 0), (3, .int .i64 (k : Int)), (0, .string (rest1 s))] ?_ ⟨Nat.zero_le _, rfl, rfl, rfl⟩ (fun j _ _ _ h => h.1) ?_
  · exact ⟨rfl, rfl, rfl, rfl, rfl, trivial⟩
  rintro i _ _ _ ⟨hi, rfl, rfl, rfl⟩ hnext
  repeat (first | with_reducible (first | refine cS ?_ | refine cR ?_ | refine cN ?_ | refine cK ?_ | refine cB ?_ | refine cI ?_) | refine cE rfl ?_ | refine rq (qt_pev tok rfl) ?_ | refine rg rfl rfl (qt_pev tok rfl) ?_ | refine rq (ql tok rfl) ?_ | refine rg rfl rfl (ql tok rfl) ?_ | (refine runL_op0 (sst tok rfl rfl rfl rfl rfl) ?_; rintro _ _ _ ⟨rfl, rfl, rfl⟩) | ((first | refine ro (st_box rfl) ?_ | refine ro (st_alloc tok rfl) ?_ | refine ro (st_buildSlice tok rfl rfl rfl rfl rfl rfl rfl) ?_); rintro _ _ _ ⟨_, rfl, rfl, rfl⟩))
  refine run_cond rfl (fun h5 => ?_) (fun h5 => ?_)
  · have hik : i < k := by simpa using h5
    obtain ⟨b, hb, hb'⟩ := byte_at (s := rest1 s) (i := i) (by omega)
    repeat (first | with_reducible (first | refine cS ?_ | refine cR ?_ | refine cN ?_ | refine cK ?_ | refine cB ?_ | refine cI ?_) | refine cE rfl ?_ | refine rq (qt_pev tok rfl) ?_ | refine rg rfl rfl (qt_pev tok rfl) ?_ | refine rq (ql tok rfl) ?_ | refine rg rfl rfl (ql tok rfl) ?_ | (refine runL_op0 (sst tok rfl rfl rfl rfl rfl) ?_; rintro _ _ _ ⟨rfl, rfl, rfl⟩) | ((first | refine ro (st_box rfl) ?_ | refine ro (st_alloc tok rfl) ?_ | refine ro (st_buildSlice tok rfl rfl rfl rfl rfl rfl rfl) ?_); rintro _ _ _ ⟨_, rfl, rfl, rfl⟩) | refine runL_q (qt_shl rfl rfl (fun _ => by decide)) rfl rfl rfl ?_ | refine runL_q (qt_strIndex tok rfl rfl rfl (fun _ => hb)) rfl rfl rfl ?_)
    exact run_sub' (hnext _ _ _ ⟨hik, rfl, rfl, rfl⟩) ⟨lk_succ rfl (by omega), rfl, by rw [numV, hb']; rfl, rfl, rfl, trivial⟩
  · have hik : i = k := by simp at h5; omega
    subst hik
    obtain ⟨b, hb, hb'⟩ := byte_at (s := rest1 s) (i := 0) (by omega)
    have hz : (byte s 0 - 247).toNat = i := by omega
    repeat (first | with_reducible (first | refine cS ?_ | refine cR ?_ | refine cN ?_ | refine cK ?_ | refine cB ?_ | refine cI ?_) | refine cE rfl ?_ | refine rq (qt_pev tok rfl) ?_ | refine rg rfl rfl (qt_pev tok rfl) ?_ | refine rq (ql tok rfl) ?_ | refine rg rfl rfl (ql tok rfl) ?_ | (refine runL_op0 (sst tok rfl rfl rfl rfl rfl) ?_; rintro _ _ _ ⟨rfl, rfl, rfl⟩) | ((first | refine ro (st_box rfl) ?_ | refine ro (st_alloc tok rfl) ?_ | refine ro (st_buildSlice tok rfl rfl rfl rfl rfl rfl rfl) ?_); rintro _ _ _ ⟨_, rfl, rfl, rfl⟩) | refine runL_q (qt_strIndex (n := 0) tok rfl rfl rfl (fun _ => hb)) rfl rfl rfl ?_)
    refine run_cond rfl (fun h6 => ?_) (fun h6 => ?_)
    · repeat (first | with_reducible (first | refine cS ?_ | refine cR ?_ | refine cN ?_ | refine cK ?_ | refine cB ?_ | refine cI ?_) | refine cE rfl ?_ | refine rq (qt_pev tok rfl) ?_ | refine rg rfl rfl (qt_pev tok rfl) ?_ | refine rq (ql tok rfl) ?_ | refine rg rfl rfl (ql tok rfl) ?_ | (refine runL_op0 (sst tok rfl rfl rfl rfl rfl) ?_; rintro _ _ _ ⟨rfl, rfl, rfl⟩) | ((first | refine ro (st_box rfl) ?_ | refine ro (st_alloc tok rfl) ?_ | refine ro (st_buildSlice tok rfl rfl rfl rfl rfl rfl rfl) ?_); rintro _ _ _ ⟨_, rfl, rfl, rfl⟩))
      refine run_ret hC (rs := [.tmp 2, .tmp 3, .tmp 4]) rfl (resT rfl (resT rfl (resT rfl resN))) (fun _ h => h) ⟨?_, rfl, rfl⟩
      have h7 : byte (rest1 s) 0 = 0 ∨ numV (rest1 s) i ≤ 247 := by rw [hb']; simpa using h6
      rw [numR, if_neg h, if_neg h2, hz, if_neg (by rw [hkb]; exact h4), if_pos h7]
      rfl
    · repeat (first | with_reducible (first | refine cS ?_ | refine cR ?_ | refine cN ?_ | refine cK ?_ | refine cB ?_ | refine cI ?_) | refine cE rfl ?_ | refine rq (qt_pev tok rfl) ?_ | refine rg rfl rfl (qt_pev tok rfl) ?_ | refine rq (ql tok rfl) ?_ | refine rg rfl rfl (ql tok rfl) ?_ | (refine runL_op0 (sst tok rfl rfl rfl rfl rfl) ?_; rintro _ _ _ ⟨rfl, rfl, rfl⟩) | ((first | refine ro (st_box rfl) ?_ | refine ro (st_alloc tok rfl) ?_ | refine ro (st_buildSlice tok rfl rfl rfl rfl rfl rfl rfl) ?_); rintro _ _ _ ⟨_, rfl, rfl, rfl⟩))
      refine run_ret hC (rs := [.tmp 2, .tmp 3, .tmp 4]) rfl (resT rfl (resT rfl (resT rfl resN))) (fun _ h => h) ⟨?_, rfl, rfl⟩
      have h7 : ¬ (byte (rest1 s) 0 = 0 ∨ numV (rest1 s) i ≤ 247) := by rw [hb']; simpa using h6
      rw [numR, if_neg h, if_neg h2, hz, if_neg (by rw [hkb]; exact h4), if_neg h7, hkb, wrap64_succ (by omega)]
      rfl
end Go.Proofs.Ytbpgiodfccijmaa
namespace Go.Chi
section
variable {P : Program} {C : Cx} {n : Nat} {k : List Item} {ds : List Deferred} {T : TT} {ro : Option Nat} {σ : Env} {δ : Den} {cur : Path} {M : Mem} {L : HL} {d : Option Nat} {ty : TypeId} {pos : String} {aft : Array Edge} {g : Option (Nat × Bool)} {v : Value}
theorem run_scope {c : Code} (h : Run P C n (.code c :: .inScope c :: k) ds σ M L) : Run P C n (.code (.scope c) :: k) ds σ M L :=
  fun a w h1 h2 h3 h4 => J.step (step_lone_go (by simp [stepG, stepG.exec, Frame.atR])) (h a w h1 h2 h3 h4)
theorem run_inScope {c : Code} (h : Run P C n k ds σ M L) : Run P C n (.inScope c :: k) ds σ M L :=
  fun a w h1 h2 h3 h4 => J.step (step_lone_go (by simp [stepG, stepG.exec, Frame.atR])) (h a w h1 h2 h3 h4)

/-- a call of an entry of the model's -/
theorem qt_callX {f : FuncId} {fn : Func} {e : Array Value → Sem Value} {args : Array Operand} {tys : Array TypeId} {vs : List Value} (hf : P.funcs[f]? = some fn) (hname : (fn.name == "runtime.NumGoroutine") = false)
    (hb : fn.body.isNone = true) (hn : Extern.findNext fn = none) (he : Extern.find fn = some e) (ha : evs σ δ cur args.toList = some vs) (h : ∀ w, (e ⟨vs⟩).run P w = .ok v w) :
    Qt P ro ⟨d, .call ⟨.value (.func f), args, tys⟩, ty, pos, aft, g⟩ σ δ cur M L v := fun a w hs hcur hp => by
  refine opWp_value (w' := w) (v := v) ?_ ⟨M, L, hp, rfl, rfl, rfl⟩
  rw [semAt_of (by intro c e; cases e)]
  have e1 : args.map a.eval = ⟨vs⟩ := by apply Array.ext'; simpa using evs_sound hs hcur ha
  simp only [execOp, resolve, e1, Act.eval, Deferred.ofValue, Sem.run_bind, Sem.run_pure, Result.andThen_ok, invoke]
  have hx := run_callFunc_extern (P := P) hf hname hb hn he ⟨vs⟩ w
  rw [h w] at hx
  simpa using hx

/-- a range over a string -/
theorem st_rangeS (hT : TOk P T) {t : TypeId} {x : Operand} {s : ByteArray} (hu : und T t = some .string) (hx : ev σ δ cur x = some (.string s)) :
    St P ro ⟨d, .range t x, ty, pos, aft, g⟩ σ δ cur M L (fun v' M' L' => ∃ b, v' = .pointer (some ⟨b, 0, none⟩) ∧ M = M' ∧ L' = (b, .stringIter s 0) :: L) := fun a w hs hcur hp => by
  refine opWp_value (v := .pointer (some ⟨w.heap.size, 0, none⟩)) (w' := { w with heap := w.heap.push (.stringIter s 0) }) ?_ ⟨M, _, hp.push _, _, rfl, rfl, rfl⟩
  rw [semAt_of (by intro c e; cases e)]
  simp [execOp, Instr.range, ev_sound hs hcur hx, run_und hT hu]

theorem st_nextS {x : Operand} {s : ByteArray} {b p : Nat} {L' : HL} (hx : ev σ δ cur x = some (.pointer (some ⟨b, 0, none⟩))) (hu : Upd L b (.stringIter s p) (.stringIter s (p + (Utf8.decode s p).2)) L') (hp' : p < s.size) :
    St P ro ⟨d, .next x true, ty, pos, aft, g⟩ σ δ cur M L (fun v' M' L1 => v' = .tuple ⟨[.bool true, .int .i64 (p : Int), .int .i32 (Utf8.decode s p).1]⟩ ∧ M = M' ∧ L1 = L') := fun a w hs hcur hp => by
  have hb := hp.own _ hu.mem
  have hlt := (Array.getElem?_eq_some_iff.1 hb).1
  refine opWp_value (v := .tuple ⟨[.bool true, .int .i64 (p : Int), .int .i32 (Utf8.decode s p).1]⟩) (w' := { w with heap := w.heap.setIfInBounds b (.stringIter s (p + (Utf8.decode s p).2)) }) ?_ ⟨M, L', hp.upd hu rfl rfl rfl ?_ ?_, rfl, rfl, rfl⟩
  · rw [semAt_of (by intro c e; cases e)]
    simp only [execOp, ev_sound hs hcur hx, Instr.next, getObj, setObj, Sem.run_bind, Sem.run, hb, Result.andThen, hp', if_true]
    simp [goInt]
  · simp [hlt]
  · intro j hj
    show (w.heap.setIfInBounds b _)[j]? = _
    rw [Array.getElem?_setIfInBounds, if_neg (fun e => hj e.symm)]
theorem qt_nextEnd {x : Operand} {s : ByteArray} {b p : Nat} (hx : ev σ δ cur x = some (.pointer (some ⟨b, 0, none⟩))) (hm : (b, Obj.stringIter s p) ∈ L) (hp' : ¬ p < s.size) :
    Qt P ro ⟨d, .next x true, ty, pos, aft, g⟩ σ δ cur M L (.tuple ⟨[.bool false]⟩) :=
  qt_of_run (semAt_of (by intro c e; cases e)) fun a w hs hcur hp => by
    have hb := hp.own _ hm
    simp only [execOp, ev_sound hs hcur hx, Instr.next, getObj, setObj, Sem.run_bind, Sem.run, hb, Result.andThen, hp', if_false]
    rfl
theorem qt_runeStr (hT : TOk P T) {s t : TypeId} {x : Operand} {m : Int} {k : IntKind} (hs' : und T s = some (.int k)) (hu : und T t = some .string) (hx : ev σ δ cur x = some (.int k m)) :
    Qt P ro ⟨d, .convert s t x, ty, pos, aft, g⟩ σ δ cur M L (.string (Utf8.encode m)) :=
  qt_of_run (semAt_of (by intro c e; cases e)) fun a w hs hcur hp => by
    simp [execOp, convert, Conv.intToString, ev_sound hs hcur hx, run_und hT hs', run_und hT hu]
theorem qt_max2 {x y : Operand} {tys : Array TypeId} {k k' : IntKind} {m n : Int} (hx : ev σ δ cur x = some (.int k m)) (hy : ev σ δ cur y = some (.int k' n)) :
    Qt P ro ⟨d, .call ⟨.builtin .max, #[x, y], tys⟩, ty, pos, aft, g⟩ σ δ cur M L (.int k (if n > m then n else m)) :=
  qt_of_run (semAt_of (by intro c e; cases e)) fun a w hs hcur hp => by
    simp [execOp, resolve, invoke, builtin, Builtin.max_, Builtin.max2, ev_sound hs hcur hx, ev_sound hs hcur hy]
end
end Go.Chi
namespace Go.Proofs.Ytbpgiodfccijmaa
open Go.Chi

/-! ### which bytes a name has -/
def abc : ByteArray := ⟨#[97, 98, 99, 100, 101, 102, 103, 104, 105, 106, 107, 108, 109, 110, 111, 112, 113, 114, 115, 116, 117, 118, 119, 120, 121, 122, 48, 49, 50, 51, 52, 53, 54, 55, 56, 57, 47, 46, 45]⟩
theorem sliteIB_ok (M : Mem) (L : HL) (s : ByteArray) (c : Int) : TrQ Try.prog 81 [.string s, .int .u8 c] M L (.int .i64 (firstIdx s c.toNat.toUInt8)) := by
  refine Tr.intro 8 Try.func81 rfl rfl Try.call81 rfl ?_
  intro C hC hro
  repeat (first | with_reducible (first | refine cS ?_ | refine cR ?_ | refine cN ?_ | refine cK ?_ | refine cB ?_ | refine cI ?_) | refine cE rfl ?_ | refine rq (qt_pev tok rfl) ?_ | refine rg rfl rfl (qt_pev tok rfl) ?_ | refine rq (ql tok rfl) ?_ | refine rg rfl rfl (ql tok rfl) ?_ | (refine runL_op0 (sst tok rfl rfl rfl rfl rfl) ?_; rintro _ _ _ ⟨rfl, rfl, rfl⟩) | ((first | refine ro (st_box rfl) ?_ | refine ro (st_alloc tok rfl) ?_ | refine ro (st_buildSlice tok rfl rfl rfl rfl rfl rfl rfl) ?_); rintro _ _ _ ⟨_, rfl, rfl, rfl⟩) | refine runL_q (qt_callX Try.func82 (by kernel_rfl) (by kernel_rfl) (by kernel_rfl) (e := Extern.BytealgIndexByte.indexByte) (by kernel_rfl) rfl (fun w => run_indexByte_string s c w)) rfl rfl rfl ?_)
  exact run_ret hC (rs := [.tmp 4]) rfl (resT rfl resN) (fun _ h => h) ⟨rfl, rfl, rfl⟩
theorem indexByte_ok (M : Mem) (L : HL) (s : ByteArray) (c : Int) : TrQ Try.prog 77 [.string s, .int .u8 c] M L (.int .i64 (firstIdx s c.toNat.toUInt8)) := by
  refine Tr.intro 8 Try.func77 rfl rfl Try.call77 rfl ?_
  intro C hC hro
  repeat (first | with_reducible (first | refine cS ?_ | refine cR ?_ | refine cN ?_ | refine cK ?_ | refine cB ?_ | refine cI ?_) | refine cE rfl ?_ | refine rq (qt_pev tok rfl) ?_ | refine rg rfl rfl (qt_pev tok rfl) ?_ | refine rq (ql tok rfl) ?_ | refine rg rfl rfl (ql tok rfl) ?_ | (refine runL_op0 (sst tok rfl rfl rfl rfl rfl) ?_; rintro _ _ _ ⟨rfl, rfl, rfl⟩) | ((first | refine ro (st_box rfl) ?_ | refine ro (st_alloc tok rfl) ?_ | refine ro (st_buildSlice tok rfl rfl rfl rfl rfl rfl rfl) ?_); rintro _ _ _ ⟨_, rfl, rfl, rfl⟩) | refine runL_q (qt_callF rfl (fun _ => sliteIB_ok _ _ s c)) rfl rfl rfl ?_)
  exact run_ret hC (rs := [.tmp 4]) rfl (resT rfl resN) (fun _ h => h) ⟨rfl, rfl, rfl⟩
theorem validRune_ok (M : Mem) (L : HL) (r : Int) : TrQ Try.prog 78 [.int .i32 r] M L (.bool (validRune r)) := by
  refine Tr.intro 17 Try.func78 rfl rfl Try.call78 rfl ?_
  intro C hC hro
  repeat (first | with_reducible (first | refine cS ?_ | refine cR ?_ | refine cN ?_ | refine cK ?_ | refine cB ?_ | refine cI ?_) | refine cE rfl ?_ | refine rq (qt_pev tok rfl) ?_ | refine rg rfl rfl (qt_pev tok rfl) ?_ | refine rq (ql tok rfl) ?_ | refine rg rfl rfl (ql tok rfl) ?_ | (refine runL_op0 (sst tok rfl rfl rfl rfl rfl) ?_; rintro _ _ _ ⟨rfl, rfl, rfl⟩) | ((first | refine ro (st_box rfl) ?_ | refine ro (st_alloc tok rfl) ?_ | refine ro (st_buildSlice tok rfl rfl rfl rfl rfl rfl rfl) ?_); rintro _ _ _ ⟨_, rfl, rfl, rfl⟩))
  refine run_cond rfl (fun h => ?_) (fun h => ?_)
  · repeat (first | with_reducible (first | refine cS ?_ | refine cR ?_ | refine cN ?_ | refine cK ?_ | refine cB ?_ | refine cI ?_) | refine cE rfl ?_ | refine rq (qt_pev tok rfl) ?_ | refine rg rfl rfl (qt_pev tok rfl) ?_ | refine rq (ql tok rfl) ?_ | refine rg rfl rfl (ql tok rfl) ?_ | (refine runL_op0 (sst tok rfl rfl rfl rfl rfl) ?_; rintro _ _ _ ⟨rfl, rfl, rfl⟩) | ((first | refine ro (st_box rfl) ?_ | refine ro (st_alloc tok rfl) ?_ | refine ro (st_buildSlice tok rfl rfl rfl rfl rfl rfl rfl) ?_); rintro _ _ _ ⟨_, rfl, rfl, rfl⟩))
    refine run_ret hC (rs := [.tmp 2]) rfl (resT rfl resN) (fun _ h => h) ⟨?_, rfl, rfl⟩
    rw [show validRune r = true from decide_eq_true (.inl (by simpa using h))]
    rfl
  · repeat (first | with_reducible (first | refine cS ?_ | refine cR ?_ | refine cN ?_ | refine cK ?_ | refine cB ?_ | refine cI ?_) | refine cE rfl ?_ | refine rq (qt_pev tok rfl) ?_ | refine rg rfl rfl (qt_pev tok rfl) ?_ | refine rq (ql tok rfl) ?_ | refine rg rfl rfl (ql tok rfl) ?_ | (refine runL_op0 (sst tok rfl rfl rfl rfl rfl) ?_; rintro _ _ _ ⟨rfl, rfl, rfl⟩) | ((first | refine ro (st_box rfl) ?_ | refine ro (st_alloc tok rfl) ?_ | refine ro (st_buildSlice tok rfl rfl rfl rfl rfl rfl rfl) ?_); rintro _ _ _ ⟨_, rfl, rfl, rfl⟩))
    refine run_cond rfl (fun h' => ?_) (fun h' => ?_)
    · repeat (first | with_reducible (first | refine cS ?_ | refine cR ?_ | refine cN ?_ | refine cK ?_ | refine cB ?_ | refine cI ?_) | refine cE rfl ?_ | refine rq (qt_pev tok rfl) ?_ | refine rg rfl rfl (qt_pev tok rfl) ?_ | refine rq (ql tok rfl) ?_ | refine rg rfl rfl (ql tok rfl) ?_ | (refine runL_op0 (sst tok rfl rfl rfl rfl rfl) ?_; rintro _ _ _ ⟨rfl, rfl, rfl⟩) | ((first | refine ro (st_box rfl) ?_ | refine ro (st_alloc tok rfl) ?_ | refine ro (st_buildSlice tok rfl rfl rfl rfl rfl rfl rfl) ?_); rintro _ _ _ ⟨_, rfl, rfl, rfl⟩))
      refine run_ret hC (rs := [.tmp 2]) rfl (resT rfl resN) (fun _ h => h) ⟨?_, rfl, rfl⟩
      rw [show validRune r = true from decide_eq_true (.inr (by simpa using h'))]
      rfl
    · repeat (first | with_reducible (first | refine cS ?_ | refine cR ?_ | refine cN ?_ | refine cK ?_ | refine cB ?_ | refine cI ?_) | refine cE rfl ?_ | refine rq (qt_pev tok rfl) ?_ | refine rg rfl rfl (qt_pev tok rfl) ?_ | refine rq (ql tok rfl) ?_ | refine rg rfl rfl (ql tok rfl) ?_ | (refine runL_op0 (sst tok rfl rfl rfl rfl rfl) ?_; rintro _ _ _ ⟨rfl, rfl, rfl⟩) | ((first | refine ro (st_box rfl) ?_ | refine ro (st_alloc tok rfl) ?_ | refine ro (st_buildSlice tok rfl rfl rfl rfl rfl rfl rfl) ?_); rintro _ _ _ ⟨_, rfl, rfl, rfl⟩))
      refine run_ret hC (rs := [.tmp 2]) rfl (resT rfl resN) (fun _ h => h) ⟨?_, rfl, rfl⟩
      rw [show validRune r = false from decide_eq_false (by
        rintro (h1 | h1)
        · simp [h1.1, h1.2] at h
        · simp [h1.1, h1.2] at h')]
      rfl
def runeIx (r : Int) : Int := if 0 ≤ r ∧ r < 128 then firstIdx abc (IntKind.u8.wrap r).toNat.toUInt8 else -1
theorem abc_lt : ∀ b ∈ abc.data.toList, b.toNat < 128 := by decide +kernel
theorem abc_at {i : Nat} (h : i < 39) : ∃ b : UInt8, abc[i]? = some b ∧ b.toNat < 128 := by
  have hx : abc[i]? = some (abc[i]'h) := getElem?_pos abc i h
  exact ⟨_, hx, abc_lt _ (Array.getElem_mem_toList (xs := abc.data) h)⟩
set_option maxHeartbeats 4000000 in
theorem indexRune_ok (M : Mem) (L : HL) (r : Int) : TrQ Try.prog 76 [.string abc, .int .i32 r] M L (.int .i64 (runeIx r)) := by
  refine Tr.intro 187 Try.func76 rfl rfl Try.call76 rfl ?_
  intro C hC hro
  repeat (first | with_reducible (first | refine cS ?_ | refine cR ?_ | refine cN ?_ | refine cK ?_ | refine cB ?_ | refine cI ?_) | refine cE rfl ?_ | refine rq (qt_pev tok rfl) ?_ | refine rg rfl rfl (qt_pev tok rfl) ?_ | refine rq (ql tok rfl) ?_ | refine rg rfl rfl (ql tok rfl) ?_ | (refine runL_op0 (sst tok rfl rfl rfl rfl rfl) ?_; rintro _ _ _ ⟨rfl, rfl, rfl⟩) | ((first | refine ro (st_box rfl) ?_ | refine ro (st_alloc tok rfl) ?_ | refine ro (st_buildSlice tok rfl rfl rfl rfl rfl rfl rfl) ?_); rintro _ _ _ ⟨_, rfl, rfl, rfl⟩))
  refine run_cond rfl (fun h => ?_) (fun h => ?_)
  · have h0 : 0 ≤ r ∧ r < 128 := by simpa using h
    repeat (first | with_reducible (first | refine cS ?_ | refine cR ?_ | refine cN ?_ | refine cK ?_ | refine cB ?_ | refine cI ?_) | refine cE rfl ?_ | refine rq (qt_pev tok rfl) ?_ | refine rg rfl rfl (qt_pev tok rfl) ?_ | refine rq (ql tok rfl) ?_ | refine rg rfl rfl (ql tok rfl) ?_ | (refine runL_op0 (sst tok rfl rfl rfl rfl rfl) ?_; rintro _ _ _ ⟨rfl, rfl, rfl⟩) | ((first | refine ro (st_box rfl) ?_ | refine ro (st_alloc tok rfl) ?_ | refine ro (st_buildSlice tok rfl rfl rfl rfl rfl rfl rfl) ?_); rintro _ _ _ ⟨_, rfl, rfl, rfl⟩) | refine runL_q (qt_callF rfl (fun _ => indexByte_ok _ _ abc _)) rfl rfl rfl ?_)
    refine run_ret hC (rs := [.tmp 4]) rfl (resT rfl resN) (fun _ h => h) ⟨?_, rfl, rfl⟩
    rw [runeIx, if_pos h0]; rfl
  have h0 : ¬ (0 ≤ r ∧ r < 128) := by simpa using h
  have hres : runeIx r = -1 := by rw [runeIx, if_neg h0]
  repeat (first | with_reducible (first | refine cS ?_ | refine cR ?_ | refine cN ?_ | refine cK ?_ | refine cB ?_ | refine cI ?_) | refine cE rfl ?_ | refine rq (qt_pev tok rfl) ?_ | refine rg rfl rfl (qt_pev tok rfl) ?_ | refine rq (ql tok rfl) ?_ | refine rg rfl rfl (ql tok rfl) ?_ | (refine runL_op0 (sst tok rfl rfl rfl rfl rfl) ?_; rintro _ _ _ ⟨rfl, rfl, rfl⟩) | ((first | refine ro (st_box rfl) ?_ | refine ro (st_alloc tok rfl) ?_ | refine ro (st_buildSlice tok rfl rfl rfl rfl rfl rfl rfl) ?_); rintro _ _ _ ⟨_, rfl, rfl, rfl⟩))
  refine run_cond rfl (fun h1 => ?_) (fun h1 => ?_)
  · repeat (first | with_reducible (first | refine cS ?_ | refine cR ?_ | refine cN ?_ | refine cK ?_ | refine cB ?_ | refine cI ?_) | refine cE rfl ?_ | refine rq (qt_pev tok rfl) ?_ | refine rg rfl rfl (qt_pev tok rfl) ?_ | refine rq (ql tok rfl) ?_ | refine rg rfl rfl (ql tok rfl) ?_ | (refine runL_op0 (sst tok rfl rfl rfl rfl rfl) ?_; rintro _ _ _ ⟨rfl, rfl, rfl⟩) | ((first | refine ro (st_box rfl) ?_ | refine ro (st_alloc tok rfl) ?_ | refine ro (st_buildSlice tok rfl rfl rfl rfl rfl rfl rfl) ?_); rintro _ _ _ ⟨_, rfl, rfl, rfl⟩) | (refine runL_op (st_rangeS tok rfl rfl) rfl rfl rfl ?_; rintro _ _ _ ⟨b, rfl, rfl, rfl⟩))
    refine run_loopN (fun i σ1 M1 L1 => i ≤ 39 ∧ σ1 = [(175, .pointer (some ⟨b, 0, none⟩))] ∧ M = M1 ∧ L1 = (b, .stringIter abc i) :: L) 39 [(175, .pointer (some ⟨b, 0, none⟩))] ?_ ⟨Nat.zero_le _, rfl, rfl, rfl⟩ (fun j _ _ _ h => h.1) ?_
    · exact ⟨rfl, trivial⟩
    rintro i _ _ _ ⟨hi, rfl, rfl, rfl⟩ hnext
    by_cases hlt : i < 39
    · have hd : Utf8.decode abc i = ((abc[i]'hlt).toNat, 1) := decode_ascii abc i hlt (abc_lt _ (Array.getElem_mem_toList (xs := abc.data) hlt))
      have hb' : (abc[i]'hlt).toNat < 128 := abc_lt _ (Array.getElem_mem_toList (xs := abc.data) hlt)
      repeat (first | with_reducible (first | refine cS ?_ | refine cR ?_ | refine cN ?_ | refine cK ?_ | refine cB ?_ | refine cI ?_) | refine cE rfl ?_ | refine rq (qt_pev tok rfl) ?_ | refine rg rfl rfl (qt_pev tok rfl) ?_ | refine rq (ql tok rfl) ?_ | refine rg rfl rfl (ql tok rfl) ?_ | (refine runL_op0 (sst tok rfl rfl rfl rfl rfl) ?_; rintro _ _ _ ⟨rfl, rfl, rfl⟩) | ((first | refine ro (st_box rfl) ?_ | refine ro (st_alloc tok rfl) ?_ | refine ro (st_buildSlice tok rfl rfl rfl rfl rfl rfl rfl) ?_); rintro _ _ _ ⟨_, rfl, rfl, rfl⟩) | (refine runL_op (st_nextS rfl (by (repeat (first | with_reducible apply Upd.here | with_reducible apply Upd.there | with_reducible apply Upd.append_left))) hlt) rfl rfl rfl ?_; rintro _ _ _ ⟨rfl, rfl, rfl⟩))
      refine run_cond rfl (fun _ => ?_) (fun h => by cases h)
      repeat (first | with_reducible (first | refine cS ?_ | refine cR ?_ | refine cN ?_ | refine cK ?_ | refine cB ?_ | refine cI ?_) | refine cE rfl ?_ | refine rq (qt_pev tok rfl) ?_ | refine rg rfl rfl (qt_pev tok rfl) ?_ | refine rq (ql tok rfl) ?_ | refine rg rfl rfl (ql tok rfl) ?_ | (refine runL_op0 (sst tok rfl rfl rfl rfl rfl) ?_; rintro _ _ _ ⟨rfl, rfl, rfl⟩) | ((first | refine ro (st_box rfl) ?_ | refine ro (st_alloc tok rfl) ?_ | refine ro (st_buildSlice tok rfl rfl rfl rfl rfl rfl rfl) ?_); rintro _ _ _ ⟨_, rfl, rfl, rfl⟩))
      refine run_cond rfl (fun h2 => ?_) (fun h2 => ?_)
      · exfalso
        rw [hd] at h2
        have h3 : (((abc[i]'hlt).toNat : Int)) = 65533 := by simpa using h2
        omega
      · repeat (first | with_reducible (first | refine cS ?_ | refine cR ?_ | refine cN ?_ | refine cK ?_ | refine cB ?_ | refine cI ?_) | refine cE rfl ?_ | refine rq (qt_pev tok rfl) ?_ | refine rg rfl rfl (qt_pev tok rfl) ?_ | refine rq (ql tok rfl) ?_ | refine rg rfl rfl (ql tok rfl) ?_ | (refine runL_op0 (sst tok rfl rfl rfl rfl rfl) ?_; rintro _ _ _ ⟨rfl, rfl, rfl⟩) | ((first | refine ro (st_box rfl) ?_ | refine ro (st_alloc tok rfl) ?_ | refine ro (st_buildSlice tok rfl rfl rfl rfl rfl rfl rfl) ?_); rintro _ _ _ ⟨_, rfl, rfl, rfl⟩))
        exact run_sub' (hnext _ _ _ ⟨hlt, rfl, rfl, by rw [hd]⟩) ⟨rfl, trivial⟩
    · repeat (first | with_reducible (first | refine cS ?_ | refine cR ?_ | refine cN ?_ | refine cK ?_ | refine cB ?_ | refine cI ?_) | refine cE rfl ?_ | refine rq (qt_pev tok rfl) ?_ | refine rg rfl rfl (qt_pev tok rfl) ?_ | refine rq (ql tok rfl) ?_ | refine rg rfl rfl (ql tok rfl) ?_ | (refine runL_op0 (sst tok rfl rfl rfl rfl rfl) ?_; rintro _ _ _ ⟨rfl, rfl, rfl⟩) | ((first | refine ro (st_box rfl) ?_ | refine ro (st_alloc tok rfl) ?_ | refine ro (st_buildSlice tok rfl rfl rfl rfl rfl rfl rfl) ?_); rintro _ _ _ ⟨_, rfl, rfl, rfl⟩) | refine runL_q (qt_nextEnd rfl (by (repeat (first | with_reducible apply List.mem_cons_self | with_reducible assumption | with_reducible apply List.mem_cons_of_mem | with_reducible apply List.mem_append_right))) hlt) rfl rfl rfl ?_)
      refine run_cond rfl (fun h => by cases h) (fun _ => ?_)
      repeat (first | with_reducible (first | refine cS ?_ | refine cR ?_ | refine cN ?_ | refine cK ?_ | refine cB ?_ | refine cI ?_) | refine cE rfl ?_ | refine rq (qt_pev tok rfl) ?_ | refine rg rfl rfl (qt_pev tok rfl) ?_ | refine rq (ql tok rfl) ?_ | refine rg rfl rfl (ql tok rfl) ?_ | (refine runL_op0 (sst tok rfl rfl rfl rfl rfl) ?_; rintro _ _ _ ⟨rfl, rfl, rfl⟩) | ((first | refine ro (st_box rfl) ?_ | refine ro (st_alloc tok rfl) ?_ | refine ro (st_buildSlice tok rfl rfl rfl rfl rfl rfl rfl) ?_); rintro _ _ _ ⟨_, rfl, rfl, rfl⟩))
      exact run_ret hC (rs := [.tmp 4]) rfl (resT rfl resN) (fun _ h => h.drop) ⟨by rw [hres]; rfl, rfl, rfl⟩
  · repeat (first | with_reducible (first | refine cS ?_ | refine cR ?_ | refine cN ?_ | refine cK ?_ | refine cB ?_ | refine cI ?_) | refine cE rfl ?_ | refine rq (qt_pev tok rfl) ?_ | refine rg rfl rfl (qt_pev tok rfl) ?_ | refine rq (ql tok rfl) ?_ | refine rg rfl rfl (ql tok rfl) ?_ | (refine runL_op0 (sst tok rfl rfl rfl rfl rfl) ?_; rintro _ _ _ ⟨rfl, rfl, rfl⟩) | ((first | refine ro (st_box rfl) ?_ | refine ro (st_alloc tok rfl) ?_ | refine ro (st_buildSlice tok rfl rfl rfl rfl rfl rfl rfl) ?_); rintro _ _ _ ⟨_, rfl, rfl, rfl⟩) | refine runL_q (qt_callF rfl (fun _ => validRune_ok _ _ r)) rfl rfl rfl ?_)
    refine run_cond rfl (fun h2 => ?_) (fun h2 => ?_)
    · repeat (first | with_reducible (first | refine cS ?_ | refine cR ?_ | refine cN ?_ | refine cK ?_ | refine cB ?_ | refine cI ?_) | refine cE rfl ?_ | refine rq (qt_pev tok rfl) ?_ | refine rg rfl rfl (qt_pev tok rfl) ?_ | refine rq (ql tok rfl) ?_ | refine rg rfl rfl (ql tok rfl) ?_ | (refine runL_op0 (sst tok rfl rfl rfl rfl rfl) ?_; rintro _ _ _ ⟨rfl, rfl, rfl⟩) | ((first | refine ro (st_box rfl) ?_ | refine ro (st_alloc tok rfl) ?_ | refine ro (st_buildSlice tok rfl rfl rfl rfl rfl rfl rfl) ?_); rintro _ _ _ ⟨_, rfl, rfl, rfl⟩))
      exact run_ret hC (rs := [.tmp 4]) rfl (resT rfl resN) (fun _ h => h) ⟨by rw [hres]; rfl, rfl, rfl⟩
    have hv : validRune r = true := by simpa using h2
    have h128 : 128 ≤ r := by
      simp only [validRune, decide_eq_true_eq] at hv
      omega
    obtain ⟨hz2, hz4, hlast⟩ := encode_facts r (by rw [validRune_eq]; exact hv) h128
    obtain ⟨m, hm⟩ : ∃ m : Nat, (Utf8.encode r).size = m + 1 := ⟨(Utf8.encode r).size - 1, by omega⟩
    have hlast' := hlast (by omega)
    obtain ⟨c, hc, hc128⟩ : ∃ c : UInt8, (Utf8.encode r)[m]? = some c ∧ 128 ≤ c.toNat := by
      refine ⟨(Utf8.encode r)[m]'(by omega), by simp [hm], ?_⟩
      have : (Utf8.encode r).size - 1 = m := by omega
      simpa only [this] using hlast'
    obtain ⟨a0, ha0, ha1⟩ := abc_at (i := m) (by omega)
    repeat (first | with_reducible (first | refine cS ?_ | refine cR ?_ | refine cN ?_ | refine cK ?_ | refine cB ?_ | refine cI ?_) | refine cE rfl ?_ | refine rq (qt_pev tok rfl) ?_ | refine rg rfl rfl (qt_pev tok rfl) ?_ | refine rq (ql tok rfl) ?_ | refine rg rfl rfl (ql tok rfl) ?_ | (refine runL_op0 (sst tok rfl rfl rfl rfl rfl) ?_; rintro _ _ _ ⟨rfl, rfl, rfl⟩) | ((first | refine ro (st_box rfl) ?_ | refine ro (st_alloc tok rfl) ?_ | refine ro (st_buildSlice tok rfl rfl rfl rfl rfl rfl rfl) ?_); rintro _ _ _ ⟨_, rfl, rfl, rfl⟩) | refine run_scope ?_ | refine runL_q (qt_runeStr tok rfl rfl rfl) rfl rfl rfl ?_)
    refine run_as 8 (.int .i64 (m : Int)) rfl (by rw [show (((Utf8.encode r).size : Int) - 1) = (m : Int) by omega, wrap64_nat (by omega)]) ?_
    refine run_as 9 (.int .i64 (m : Int)) rfl (by rw [show (((Utf8.encode r).size : Int) - 1) = (m : Int) by omega, wrap64_nat (by omega)]) ?_
    repeat (first | with_reducible (first | refine cS ?_ | refine cR ?_ | refine cN ?_ | refine cK ?_ | refine cB ?_ | refine cI ?_) | refine cE rfl ?_ | refine rq (qt_pev tok rfl) ?_ | refine rg rfl rfl (qt_pev tok rfl) ?_ | refine rq (ql tok rfl) ?_ | refine rg rfl rfl (ql tok rfl) ?_ | (refine runL_op0 (sst tok rfl rfl rfl rfl rfl) ?_; rintro _ _ _ ⟨rfl, rfl, rfl⟩) | ((first | refine ro (st_box rfl) ?_ | refine ro (st_alloc tok rfl) ?_ | refine ro (st_buildSlice tok rfl rfl rfl rfl rfl rfl rfl) ?_); rintro _ _ _ ⟨_, rfl, rfl, rfl⟩))
    refine run_loop ?_
    repeat (first | with_reducible (first | refine cS ?_ | refine cR ?_ | refine cN ?_ | refine cK ?_ | refine cB ?_ | refine cI ?_) | refine cE rfl ?_ | refine rq (qt_pev tok rfl) ?_ | refine rg rfl rfl (qt_pev tok rfl) ?_ | refine rq (ql tok rfl) ?_ | refine rg rfl rfl (ql tok rfl) ?_ | (refine runL_op0 (sst tok rfl rfl rfl rfl rfl) ?_; rintro _ _ _ ⟨rfl, rfl, rfl⟩) | ((first | refine ro (st_box rfl) ?_ | refine ro (st_alloc tok rfl) ?_ | refine ro (st_buildSlice tok rfl rfl rfl rfl rfl rfl rfl) ?_); rintro _ _ _ ⟨_, rfl, rfl, rfl⟩))
    refine run_cond rfl (fun _ => ?_) (fun h3 => ?_)
    rotate_left
    · exfalso
      have h3' : ¬ ((m : Int) < (abc.size : Int)) := by simpa using h3
      have : abc.size = 39 := rfl
      omega
    repeat (first | with_reducible (first | refine cS ?_ | refine cR ?_ | refine cN ?_ | refine cK ?_ | refine cB ?_ | refine cI ?_) | refine cE rfl ?_ | refine rq (qt_pev tok rfl) ?_ | refine rg rfl rfl (qt_pev tok rfl) ?_ | refine rq (ql tok rfl) ?_ | refine rg rfl rfl (ql tok rfl) ?_ | (refine runL_op0 (sst tok rfl rfl rfl rfl rfl) ?_; rintro _ _ _ ⟨rfl, rfl, rfl⟩) | ((first | refine ro (st_box rfl) ?_ | refine ro (st_alloc tok rfl) ?_ | refine ro (st_buildSlice tok rfl rfl rfl rfl rfl rfl rfl) ?_); rintro _ _ _ ⟨_, rfl, rfl, rfl⟩) | refine prn_start mixed ?_ | refine prn_end (by decide +kernel) ?_ | refine pq rfl (qt_pev tok rfl) ?_ | refine pg rfl rfl rfl (qt_pev tok rfl) ?_ | refine pq rfl (ql tok rfl) ?_ | refine pg rfl rfl rfl (ql tok rfl) ?_ | (refine prn_e0 rfl (sst tok rfl rfl rfl rfl rfl) (by decide +kernel) ?_; rintro _ _ _ ⟨rfl, rfl, rfl⟩) | ((first | refine pe rfl (st_box rfl) ?_ | refine pe rfl (st_alloc tok rfl) ?_ | refine pe rfl (st_buildSlice tok rfl rfl rfl rfl rfl rfl rfl) ?_); rintro _ _ _ ⟨_, rfl, rfl, rfl⟩) | (refine prn_o0 rfl (sst tok rfl rfl rfl rfl rfl) (by decide +kernel) ?_; rintro _ _ _ ⟨rfl, rfl, rfl⟩; refine ⟨by (repeat (first | exact trivial | refine And.intro (pend_q rfl rfl rfl (qt_pev tok rfl)) ?_ | refine And.intro (pend_q rfl rfl rfl (ql tok rfl)) ?_)), ?_⟩) | ((first | refine po rfl (st_box rfl) ?_ | refine po rfl (st_alloc tok rfl) ?_ | refine po rfl (st_buildSlice tok rfl rfl rfl rfl rfl rfl rfl) ?_); rintro _ _ _ ⟨_, rfl, rfl, rfl⟩; refine ⟨by (repeat (first | exact trivial | refine And.intro (pend_q rfl rfl rfl (qt_pev tok rfl)) ?_ | refine And.intro (pend_q rfl rfl rfl (ql tok rfl)) ?_)), ?_⟩) | (refine pe rfl (qt_pev tok rfl) ?_; rintro _ _ _ ⟨rfl, rfl, rfl⟩) | refine run_scope ?_ | refine prn_q rfl (qt_strIndex tok rfl rfl rfl (fun _ => ha0)) (by decide +kernel) rfl rfl rfl ?_ | refine prn_q rfl (qt_strIndex tok rfl rfl rfl (fun _ => hc)) (by decide +kernel) rfl rfl rfl ?_)
    refine run_cond rfl (fun _ => ?_) (fun h4 => ?_)
    rotate_left
    · exfalso
      have h4' : (a0.toNat : Int) = (c.toNat : Int) := by simpa using h4
      omega
    have hm1 : IntKind.i64.wrap ((m : Int) + 1) = ((m + 1 : Nat) : Int) := wrap64_succ (by omega)
    repeat (first | with_reducible (first | refine cS ?_ | refine cR ?_ | refine cN ?_ | refine cK ?_ | refine cB ?_ | refine cI ?_) | refine cE rfl ?_ | refine rq (qt_pev tok rfl) ?_ | refine rg rfl rfl (qt_pev tok rfl) ?_ | refine rq (ql tok rfl) ?_ | refine rg rfl rfl (ql tok rfl) ?_ | (refine runL_op0 (sst tok rfl rfl rfl rfl rfl) ?_; rintro _ _ _ ⟨rfl, rfl, rfl⟩) | ((first | refine ro (st_box rfl) ?_ | refine ro (st_alloc tok rfl) ?_ | refine ro (st_buildSlice tok rfl rfl rfl rfl rfl rfl rfl) ?_); rintro _ _ _ ⟨_, rfl, rfl, rfl⟩) | refine prn_start mixed ?_ | refine prn_end (by decide +kernel) ?_ | refine pq rfl (qt_pev tok rfl) ?_ | refine pg rfl rfl rfl (qt_pev tok rfl) ?_ | refine pq rfl (ql tok rfl) ?_ | refine pg rfl rfl rfl (ql tok rfl) ?_ | (refine prn_e0 rfl (sst tok rfl rfl rfl rfl rfl) (by decide +kernel) ?_; rintro _ _ _ ⟨rfl, rfl, rfl⟩) | ((first | refine pe rfl (st_box rfl) ?_ | refine pe rfl (st_alloc tok rfl) ?_ | refine pe rfl (st_buildSlice tok rfl rfl rfl rfl rfl rfl rfl) ?_); rintro _ _ _ ⟨_, rfl, rfl, rfl⟩) | (refine prn_o0 rfl (sst tok rfl rfl rfl rfl rfl) (by decide +kernel) ?_; rintro _ _ _ ⟨rfl, rfl, rfl⟩; refine ⟨by (repeat (first | exact trivial | refine And.intro (pend_q rfl rfl rfl (qt_pev tok rfl)) ?_ | refine And.intro (pend_q rfl rfl rfl (ql tok rfl)) ?_)), ?_⟩) | ((first | refine po rfl (st_box rfl) ?_ | refine po rfl (st_alloc tok rfl) ?_ | refine po rfl (st_buildSlice tok rfl rfl rfl rfl rfl rfl rfl) ?_); rintro _ _ _ ⟨_, rfl, rfl, rfl⟩; refine ⟨by (repeat (first | exact trivial | refine And.intro (pend_q rfl rfl rfl (qt_pev tok rfl)) ?_ | refine And.intro (pend_q rfl rfl rfl (ql tok rfl)) ?_)), ?_⟩) | (refine pe rfl (qt_pev tok rfl) ?_; rintro _ _ _ ⟨rfl, rfl, rfl⟩))
    refine pr_as 36 (.int .i64 ((m + 1 : Nat) : Int)) rfl (by rw [hm1]) ?_
    repeat (first | with_reducible (first | refine cS ?_ | refine cR ?_ | refine cN ?_ | refine cK ?_ | refine cB ?_ | refine cI ?_) | refine cE rfl ?_ | refine rq (qt_pev tok rfl) ?_ | refine rg rfl rfl (qt_pev tok rfl) ?_ | refine rq (ql tok rfl) ?_ | refine rg rfl rfl (ql tok rfl) ?_ | (refine runL_op0 (sst tok rfl rfl rfl rfl rfl) ?_; rintro _ _ _ ⟨rfl, rfl, rfl⟩) | ((first | refine ro (st_box rfl) ?_ | refine ro (st_alloc tok rfl) ?_ | refine ro (st_buildSlice tok rfl rfl rfl rfl rfl rfl rfl) ?_); rintro _ _ _ ⟨_, rfl, rfl, rfl⟩) | refine prn_start mixed ?_ | refine prn_end (by decide +kernel) ?_ | refine pq rfl (qt_pev tok rfl) ?_ | refine pg rfl rfl rfl (qt_pev tok rfl) ?_ | refine pq rfl (ql tok rfl) ?_ | refine pg rfl rfl rfl (ql tok rfl) ?_ | (refine prn_e0 rfl (sst tok rfl rfl rfl rfl rfl) (by decide +kernel) ?_; rintro _ _ _ ⟨rfl, rfl, rfl⟩) | ((first | refine pe rfl (st_box rfl) ?_ | refine pe rfl (st_alloc tok rfl) ?_ | refine pe rfl (st_buildSlice tok rfl rfl rfl rfl rfl rfl rfl) ?_); rintro _ _ _ ⟨_, rfl, rfl, rfl⟩) | (refine prn_o0 rfl (sst tok rfl rfl rfl rfl rfl) (by decide +kernel) ?_; rintro _ _ _ ⟨rfl, rfl, rfl⟩; refine ⟨by (repeat (first | exact trivial | refine And.intro (pend_q rfl rfl rfl (qt_pev tok rfl)) ?_ | refine And.intro (pend_q rfl rfl rfl (ql tok rfl)) ?_)), ?_⟩) | ((first | refine po rfl (st_box rfl) ?_ | refine po rfl (st_alloc tok rfl) ?_ | refine po rfl (st_buildSlice tok rfl rfl rfl rfl rfl rfl rfl) ?_); rintro _ _ _ ⟨_, rfl, rfl, rfl⟩; refine ⟨by (repeat (first | exact trivial | refine And.intro (pend_q rfl rfl rfl (qt_pev tok rfl)) ?_ | refine And.intro (pend_q rfl rfl rfl (ql tok rfl)) ?_)), ?_⟩) | (refine pe rfl (qt_pev tok rfl) ?_; rintro _ _ _ ⟨rfl, rfl, rfl⟩) | refine prn_q rfl (qt_strLo tok rfl rfl rfl (fun _ => show m + 1 ≤ 39 by omega)) (by decide +kernel) rfl rfl rfl ?_ | refine prn_q rfl (qt_strIndex tok rfl rfl rfl (fun _ => hc)) (by decide +kernel) rfl rfl rfl ?_ | refine prn_q rfl (qt_callF rfl (fun _ => indexByte_ok _ _ _ _)) (by decide +kernel) rfl rfl rfl ?_)
    refine run_cond rfl (fun _ => ?_) (fun h5 => ?_)
    · repeat (first | with_reducible (first | refine cS ?_ | refine cR ?_ | refine cN ?_ | refine cK ?_ | refine cB ?_ | refine cI ?_) | refine cE rfl ?_ | refine rq (qt_pev tok rfl) ?_ | refine rg rfl rfl (qt_pev tok rfl) ?_ | refine rq (ql tok rfl) ?_ | refine rg rfl rfl (ql tok rfl) ?_ | (refine runL_op0 (sst tok rfl rfl rfl rfl rfl) ?_; rintro _ _ _ ⟨rfl, rfl, rfl⟩) | ((first | refine ro (st_box rfl) ?_ | refine ro (st_alloc tok rfl) ?_ | refine ro (st_buildSlice tok rfl rfl rfl rfl rfl rfl rfl) ?_); rintro _ _ _ ⟨_, rfl, rfl, rfl⟩))
      exact run_ret hC (rs := [.tmp 4]) rfl (resT rfl resN) (fun _ h => h) ⟨by rw [hres]; rfl, rfl, rfl⟩
    · exfalso
      rw [firstIdx_ascii abc _ _ _ abc_lt (by simpa using hc128)] at h5
      cases h5
end Go.Proofs.Ytbpgiodfccijmaa
namespace Go.Proofs.Ytbpgiodfccijmaa
open Go.Chi

def inAbc (r : Int) : Bool := decide (0 ≤ runeIx r)
theorem containsRune_ok (M : Mem) (L : HL) (r : Int) : TrQ Try.prog 74 [.string abc, .int .i32 r] M L (.bool (inAbc r)) := by
  refine Tr.intro 9 Try.func74 rfl rfl Try.call74 rfl ?_
  intro C hC hro
  repeat (first | with_reducible (first | refine cS ?_ | refine cR ?_ | refine cN ?_ | refine cK ?_ | refine cB ?_ | refine cI ?_) | refine cE rfl ?_ | refine rq (qt_pev tok rfl) ?_ | refine rg rfl rfl (qt_pev tok rfl) ?_ | refine rq (ql tok rfl) ?_ | refine rg rfl rfl (ql tok rfl) ?_ | (refine runL_op0 (sst tok rfl rfl rfl rfl rfl) ?_; rintro _ _ _ ⟨rfl, rfl, rfl⟩) | ((first | refine ro (st_box rfl) ?_ | refine ro (st_alloc tok rfl) ?_ | refine ro (st_buildSlice tok rfl rfl rfl rfl rfl rfl rfl) ?_); rintro _ _ _ ⟨_, rfl, rfl, rfl⟩) | refine runL_q (qt_callF rfl (fun _ => indexRune_ok _ _ r)) rfl rfl rfl ?_)
  exact run_ret hC (rs := [.tmp 4]) rfl (resT rfl resN) (fun _ h => h) ⟨rfl, rfl, rfl⟩
theorem decode_wide (s : ByteArray) {p : Nat} (h : p < s.size) : 1 ≤ (Utf8.decode s p).2 := by
  by_cases ha : (s[p]'h).toNat < 128
  · rw [decode_ascii s p h ha]; exact Nat.le_refl _
  · exact (decode_high s p h (by omega)).2
/-- whether all runes from here on may stand in a name -/
def namedAt (s : ByteArray) : Nat → Nat → Bool
  | 0, _ => true
  | f + 1, p => if p < s.size then inAbc (Utf8.decode s p).1 && namedAt s f (p + (Utf8.decode s p).2) else true
def namedR (s : ByteArray) : Bool := namedAt s (s.size + 1) 0 && decide (s.size ≠ 0)
theorem namedAt_end (s : ByteArray) {p : Nat} (h : ¬ p < s.size) : ∀ f, namedAt s f p = true
  | 0 => rfl
  | f + 1 => by rw [namedAt, if_neg h]
set_option maxRecDepth 10000 in
set_option maxHeartbeats 4000000 in
theorem named_ok (M : Mem) (L : HL) (s : ByteArray) : TrQ Try.prog 71 [.string s] M L (.bool (namedR s)) := by
  refine Tr.intro 15 Try.func71 rfl rfl Try.call71 rfl ?_
  intro C hC hro
  repeat (first | with_reducible (first | refine cS ?_ | refine cR ?_ | refine cN ?_ | refine cK ?_ | refine cB ?_ | refine cI ?_) | refine cE rfl ?_ | refine rq (qt_pev tok rfl) ?_ | refine rg rfl rfl (qt_pev tok rfl) ?_ | refine rq (ql tok rfl) ?_ | refine rg rfl rfl (ql tok rfl) ?_ | (refine runL_op0 (sst tok rfl rfl rfl rfl rfl) ?_; rintro _ _ _ ⟨rfl, rfl, rfl⟩) | ((first | refine ro (st_box rfl) ?_ | refine ro (st_alloc tok rfl) ?_ | refine ro (st_buildSlice tok rfl rfl rfl rfl rfl rfl rfl) ?_); rintro _ _ _ ⟨_, rfl, rfl, rfl⟩) | (refine runL_op (st_rangeS tok rfl rfl) rfl rfl rfl ?_; rintro _ _ _ ⟨b, rfl, rfl, rfl⟩))
  refine run_loopN (fun i σ1 M1 L1 => i ≤ s.size ∧ ∃ p, i ≤ p ∧ namedAt s (s.size + 1 - i) p = namedAt s (s.size + 1) 0 ∧ σ1 = [(6, .pointer (some ⟨b, 0, none⟩)), (0, .string s)] ∧ M = M1 ∧ L1 = (b, .stringIter s p) :: L) s.size [(6, .pointer (some ⟨b, 0, none⟩)), (0, .string s)] ?_ ⟨Nat.zero_le _, 0, Nat.le_refl _, rfl, rfl, rfl, rfl⟩ (fun j _ _ _ h => h.1) ?_
  · exact ⟨rfl, rfl, trivial⟩
  rintro i _ _ _ ⟨hi, p, hip, hn, rfl, rfl, rfl⟩ hnext
  by_cases hlt : p < s.size
  · have hw := decode_wide s hlt
    rw [show s.size + 1 - i = (s.size + 1 - (i + 1)) + 1 by omega, namedAt, if_pos hlt] at hn
    repeat (first | with_reducible (first | refine cS ?_ | refine cR ?_ | refine cN ?_ | refine cK ?_ | refine cB ?_ | refine cI ?_) | refine cE rfl ?_ | refine rq (qt_pev tok rfl) ?_ | refine rg rfl rfl (qt_pev tok rfl) ?_ | refine rq (ql tok rfl) ?_ | refine rg rfl rfl (ql tok rfl) ?_ | (refine runL_op0 (sst tok rfl rfl rfl rfl rfl) ?_; rintro _ _ _ ⟨rfl, rfl, rfl⟩) | ((first | refine ro (st_box rfl) ?_ | refine ro (st_alloc tok rfl) ?_ | refine ro (st_buildSlice tok rfl rfl rfl rfl rfl rfl rfl) ?_); rintro _ _ _ ⟨_, rfl, rfl, rfl⟩) | (refine runL_op (st_nextS rfl (by (repeat (first | with_reducible apply Upd.here | with_reducible apply Upd.there | with_reducible apply Upd.append_left))) hlt) rfl rfl rfl ?_; rintro _ _ _ ⟨rfl, rfl, rfl⟩))
    refine run_cond rfl (fun _ => ?_) (fun h => by cases h)
    repeat (first | with_reducible (first | refine cS ?_ | refine cR ?_ | refine cN ?_ | refine cK ?_ | refine cB ?_ | refine cI ?_) | refine cE rfl ?_ | refine rq (qt_pev tok rfl) ?_ | refine rg rfl rfl (qt_pev tok rfl) ?_ | refine rq (ql tok rfl) ?_ | refine rg rfl rfl (ql tok rfl) ?_ | (refine runL_op0 (sst tok rfl rfl rfl rfl rfl) ?_; rintro _ _ _ ⟨rfl, rfl, rfl⟩) | ((first | refine ro (st_box rfl) ?_ | refine ro (st_alloc tok rfl) ?_ | refine ro (st_buildSlice tok rfl rfl rfl rfl rfl rfl rfl) ?_); rintro _ _ _ ⟨_, rfl, rfl, rfl⟩) | refine runL_q (qt_callF rfl (fun _ => containsRune_ok _ _ _)) rfl rfl rfl ?_)
    refine run_cond rfl (fun h2 => ?_) (fun h2 => ?_)
    · have h3 : inAbc (Utf8.decode s p).1 = false := by simpa using h2
      repeat (first | with_reducible (first | refine cS ?_ | refine cR ?_ | refine cN ?_ | refine cK ?_ | refine cB ?_ | refine cI ?_) | refine cE rfl ?_ | refine rq (qt_pev tok rfl) ?_ | refine rg rfl rfl (qt_pev tok rfl) ?_ | refine rq (ql tok rfl) ?_ | refine rg rfl rfl (ql tok rfl) ?_ | (refine runL_op0 (sst tok rfl rfl rfl rfl rfl) ?_; rintro _ _ _ ⟨rfl, rfl, rfl⟩) | ((first | refine ro (st_box rfl) ?_ | refine ro (st_alloc tok rfl) ?_ | refine ro (st_buildSlice tok rfl rfl rfl rfl rfl rfl rfl) ?_); rintro _ _ _ ⟨_, rfl, rfl, rfl⟩))
      refine run_ret hC (rs := [.tmp 2]) rfl (resT rfl resN) (fun _ h => h.drop) ⟨?_, rfl, rfl⟩
      rw [namedR, ← hn, h3]; rfl
    · have h3 : inAbc (Utf8.decode s p).1 = true := by simpa using h2
      repeat (first | with_reducible (first | refine cS ?_ | refine cR ?_ | refine cN ?_ | refine cK ?_ | refine cB ?_ | refine cI ?_) | refine cE rfl ?_ | refine rq (qt_pev tok rfl) ?_ | refine rg rfl rfl (qt_pev tok rfl) ?_ | refine rq (ql tok rfl) ?_ | refine rg rfl rfl (ql tok rfl) ?_ | (refine runL_op0 (sst tok rfl rfl rfl rfl rfl) ?_; rintro _ _ _ ⟨rfl, rfl, rfl⟩) | ((first | refine ro (st_box rfl) ?_ | refine ro (st_alloc tok rfl) ?_ | refine ro (st_buildSlice tok rfl rfl rfl rfl rfl rfl rfl) ?_); rintro _ _ _ ⟨_, rfl, rfl, rfl⟩))
      exact run_sub' (hnext _ _ _ ⟨by omega, p + (Utf8.decode s p).2, by omega, by rw [← hn, h3]; rfl, rfl, rfl, rfl⟩) ⟨rfl, rfl, trivial⟩
  · rw [namedAt_end s hlt] at hn
    repeat (first | with_reducible (first | refine cS ?_ | refine cR ?_ | refine cN ?_ | refine cK ?_ | refine cB ?_ | refine cI ?_) | refine cE rfl ?_ | refine rq (qt_pev tok rfl) ?_ | refine rg rfl rfl (qt_pev tok rfl) ?_ | refine rq (ql tok rfl) ?_ | refine rg rfl rfl (ql tok rfl) ?_ | (refine runL_op0 (sst tok rfl rfl rfl rfl rfl) ?_; rintro _ _ _ ⟨rfl, rfl, rfl⟩) | ((first | refine ro (st_box rfl) ?_ | refine ro (st_alloc tok rfl) ?_ | refine ro (st_buildSlice tok rfl rfl rfl rfl rfl rfl rfl) ?_); rintro _ _ _ ⟨_, rfl, rfl, rfl⟩) | refine runL_q (qt_nextEnd rfl (by (repeat (first | with_reducible apply List.mem_cons_self | with_reducible assumption | with_reducible apply List.mem_cons_of_mem | with_reducible apply List.mem_append_right))) hlt) rfl rfl rfl ?_)
    refine run_cond rfl (fun h => by cases h) (fun _ => ?_)
    repeat (first | with_reducible (first | refine cS ?_ | refine cR ?_ | refine cN ?_ | refine cK ?_ | refine cB ?_ | refine cI ?_) | refine cE rfl ?_ | refine rq (qt_pev tok rfl) ?_ | refine rg rfl rfl (qt_pev tok rfl) ?_ | refine rq (ql tok rfl) ?_ | refine rg rfl rfl (ql tok rfl) ?_ | (refine runL_op0 (sst tok rfl rfl rfl rfl rfl) ?_; rintro _ _ _ ⟨rfl, rfl, rfl⟩) | ((first | refine ro (st_box rfl) ?_ | refine ro (st_alloc tok rfl) ?_ | refine ro (st_buildSlice tok rfl rfl rfl rfl rfl rfl rfl) ?_); rintro _ _ _ ⟨_, rfl, rfl, rfl⟩))
    refine run_ret hC (rs := [.tmp 2]) rfl (resT rfl resN) (fun _ h => h.drop) ⟨?_, rfl, rfl⟩
    rw [namedR, ← hn, empty_beq]
    by_cases h0 : s.size = 0
    · simp [h0]; rfl
    · simp [h0]; rfl

/-! ### texts -/
theorem u64_pos (k : IntKind) (h : k = .u64) (x : Int) : 0 ≤ k.wrap x ∧ k.wrap x < 18446744073709551616 := by
  subst h
  simp only [IntKind.wrap, IntKind.signed, IntKind.bits]
  simp
  omega
theorem byte_pos (s : ByteArray) (i : Nat) : 0 ≤ byte s i ∧ byte s i < 256 := by
  have := ((s[i]?).getD 0).toNat_lt
  simp only [byte]
  omega
theorem numV_pos (s : ByteArray) (i : Nat) : 0 ≤ numV s i := by
  cases i with
  | zero => exact Int.le_refl _
  | succ i => exact (u64_pos .u64 rfl _).1
theorem numR_pos (s : ByteArray) : 0 ≤ (numR s).1 := by
  unfold numR
  repeat' split
  all_goals first | exact Int.le_refl _ | exact (byte_pos _ _).1 | exact numV_pos _ _
theorem numR_len (s : ByteArray) (h : (numR s).2.2 = 0) : ∃ n : Nat, (numR s).2.1 = n ∧ 1 ≤ n ∧ n ≤ s.size := by
  have hb := byte_pos s 0
  have hr : s.size ≠ 0 → (rest1 s).size = s.size - 1 := fun _ => by simp [rest1]
  unfold numR at h ⊢
  split at h
  · cases h
  · rename_i h0
    rw [if_neg h0]
    split at h
    · rename_i h1; rw [if_pos h1]; exact ⟨1, rfl, by omega, by omega⟩
    · rename_i h1
      rw [if_neg h1]
      split at h
      · cases h
      · rename_i h2
        rw [if_neg h2]
        split at h
        · cases h
        · rename_i h3
          rw [if_neg h3]
          have := hr h0
          exact ⟨(byte s 0 - 247 + 1).toNat, show byte s 0 - 247 + 1 = _ by omega, by omega, by omega⟩
/-- a text at the front -/
def textR (s : ByteArray) (most : Nat) : ByteArray × Int × Int :=
  if (numR s).2.2 ≠ 0 then (⟨#[]⟩, 0, (numR s).2.2) else
  if (most : Int) < (numR s).1 then (⟨#[]⟩, 0, 5) else
  if (s.size : Int) - (numR s).2.1 < (numR s).1 then (⟨#[]⟩, 0, 6) else
  (s.extract (numR s).2.1.toNat ((numR s).2.1 + (numR s).1).toNat, (numR s).2.1 + (numR s).1, 0)
theorem u64_nat {n : Nat} (h : n < 18446744073709551616) : IntKind.u64.wrap (n : Int) = n := by
  simp only [IntKind.wrap, IntKind.signed, IntKind.bits]
  simp
  omega
set_option maxRecDepth 10000 in
set_option maxHeartbeats 4000000 in
theorem readText_ok (M : Mem) (L : HL) (s : ByteArray) (most : Nat) (hs : s.size < 4611686018427387904) (hm : most < 4611686018427387904) : TrQ Try.prog 70 [.string s, .int .i64 (most : Int)] M L (.tuple ⟨[.string (textR s most).1, .int .i64 (textR s most).2.1, .int .i64 (textR s most).2.2]⟩) := by
  refine Tr.intro 43 Try.func70 rfl rfl Try.call70 rfl ?_
  intro C hC hro
  repeat (first | with_reducible (first | refine cS ?_ | refine cR ?_ | refine cN ?_ | refine cK ?_ | refine cB ?_ | refine cI ?_) | refine cE rfl ?_ | refine rq (qt_pev tok rfl) ?_ | refine rg rfl rfl (qt_pev tok rfl) ?_ | refine rq (ql tok rfl) ?_ | refine rg rfl rfl (ql tok rfl) ?_ | (refine runL_op0 (sst tok rfl rfl rfl rfl rfl) ?_; rintro _ _ _ ⟨rfl, rfl, rfl⟩) | ((first | refine ro (st_box rfl) ?_ | refine ro (st_alloc tok rfl) ?_ | refine ro (st_buildSlice tok rfl rfl rfl rfl rfl rfl rfl) ?_); rintro _ _ _ ⟨_, rfl, rfl, rfl⟩) | refine runL_q (qt_callF rfl (fun _ => readNum_ok _ _ s)) rfl rfl rfl ?_)
  refine run_cond rfl (fun h => ?_) (fun h => ?_)
  · have h0 : (numR s).2.2 ≠ 0 := by simpa using h
    repeat (first | with_reducible (first | refine cS ?_ | refine cR ?_ | refine cN ?_ | refine cK ?_ | refine cB ?_ | refine cI ?_) | refine cE rfl ?_ | refine rq (qt_pev tok rfl) ?_ | refine rg rfl rfl (qt_pev tok rfl) ?_ | refine rq (ql tok rfl) ?_ | refine rg rfl rfl (ql tok rfl) ?_ | (refine runL_op0 (sst tok rfl rfl rfl rfl rfl) ?_; rintro _ _ _ ⟨rfl, rfl, rfl⟩) | ((first | refine ro (st_box rfl) ?_ | refine ro (st_alloc tok rfl) ?_ | refine ro (st_buildSlice tok rfl rfl rfl rfl rfl rfl rfl) ?_); rintro _ _ _ ⟨_, rfl, rfl, rfl⟩))
    exact run_ret hC (rs := [.tmp 4, .tmp 5, .tmp 6]) rfl (resT rfl (resT rfl (resT rfl resN))) (fun _ h => h) ⟨by rw [textR, if_pos h0]; rfl, rfl, rfl⟩
  have h0 : (numR s).2.2 = 0 := by simpa using h
  obtain ⟨n, hn, hn1, hn2⟩ := numR_len s h0
  have hv0 := numR_pos s
  have e1 : IntKind.u64.wrap (if (0 : Int) > (most : Int) then 0 else (most : Int)) = (most : Int) := by rw [if_neg (by omega), u64_nat (by omega)]
  repeat (first | with_reducible (first | refine cS ?_ | refine cR ?_ | refine cN ?_ | refine cK ?_ | refine cB ?_ | refine cI ?_) | refine cE rfl ?_ | refine rq (qt_pev tok rfl) ?_ | refine rg rfl rfl (qt_pev tok rfl) ?_ | refine rq (ql tok rfl) ?_ | refine rg rfl rfl (ql tok rfl) ?_ | (refine runL_op0 (sst tok rfl rfl rfl rfl rfl) ?_; rintro _ _ _ ⟨rfl, rfl, rfl⟩) | ((first | refine ro (st_box rfl) ?_ | refine ro (st_alloc tok rfl) ?_ | refine ro (st_buildSlice tok rfl rfl rfl rfl rfl rfl rfl) ?_); rintro _ _ _ ⟨_, rfl, rfl, rfl⟩) | refine runL_q (qt_max2 rfl rfl) rfl rfl rfl ?_)
  refine run_cond rfl (fun h1 => ?_) (fun h1 => ?_)
  · rw [e1] at h1
    have h2 : (most : Int) < (numR s).1 := by simpa using h1
    repeat (first | with_reducible (first | refine cS ?_ | refine cR ?_ | refine cN ?_ | refine cK ?_ | refine cB ?_ | refine cI ?_) | refine cE rfl ?_ | refine rq (qt_pev tok rfl) ?_ | refine rg rfl rfl (qt_pev tok rfl) ?_ | refine rq (ql tok rfl) ?_ | refine rg rfl rfl (ql tok rfl) ?_ | (refine runL_op0 (sst tok rfl rfl rfl rfl rfl) ?_; rintro _ _ _ ⟨rfl, rfl, rfl⟩) | ((first | refine ro (st_box rfl) ?_ | refine ro (st_alloc tok rfl) ?_ | refine ro (st_buildSlice tok rfl rfl rfl rfl rfl rfl rfl) ?_); rintro _ _ _ ⟨_, rfl, rfl, rfl⟩))
    exact run_ret hC (rs := [.tmp 4, .tmp 5, .tmp 6]) rfl (resT rfl (resT rfl (resT rfl resN))) (fun _ h => h) ⟨by rw [textR, if_neg (by simp [h0]), if_pos h2]; rfl, rfl, rfl⟩
  rw [e1] at h1
  have h2 : ¬ (most : Int) < (numR s).1 := by simpa using h1
  have e2 : IntKind.u64.wrap (IntKind.i64.wrap ((s.size : Int) - (numR s).2.1)) = (s.size : Int) - (numR s).2.1 := by
    rw [hn, show (s.size : Int) - (n : Int) = ((s.size - n : Nat) : Int) by omega, wrap64_nat (by omega), u64_nat (by omega)]
  obtain ⟨v, hv⟩ : ∃ v : Nat, (numR s).1 = v := ⟨(numR s).1.toNat, by omega⟩
  repeat (first | with_reducible (first | refine cS ?_ | refine cR ?_ | refine cN ?_ | refine cK ?_ | refine cB ?_ | refine cI ?_) | refine cE rfl ?_ | refine rq (qt_pev tok rfl) ?_ | refine rg rfl rfl (qt_pev tok rfl) ?_ | refine rq (ql tok rfl) ?_ | refine rg rfl rfl (ql tok rfl) ?_ | (refine runL_op0 (sst tok rfl rfl rfl rfl rfl) ?_; rintro _ _ _ ⟨rfl, rfl, rfl⟩) | ((first | refine ro (st_box rfl) ?_ | refine ro (st_alloc tok rfl) ?_ | refine ro (st_buildSlice tok rfl rfl rfl rfl rfl rfl rfl) ?_); rintro _ _ _ ⟨_, rfl, rfl, rfl⟩))
  refine run_cond rfl (fun h3 => ?_) (fun h3 => ?_)
  · have h4 : (s.size : Int) - (numR s).2.1 < (numR s).1 := by
      have := of_decide_eq_true h3
      rwa [e2] at this
    repeat (first | with_reducible (first | refine cS ?_ | refine cR ?_ | refine cN ?_ | refine cK ?_ | refine cB ?_ | refine cI ?_) | refine cE rfl ?_ | refine rq (qt_pev tok rfl) ?_ | refine rg rfl rfl (qt_pev tok rfl) ?_ | refine rq (ql tok rfl) ?_ | refine rg rfl rfl (ql tok rfl) ?_ | (refine runL_op0 (sst tok rfl rfl rfl rfl rfl) ?_; rintro _ _ _ ⟨rfl, rfl, rfl⟩) | ((first | refine ro (st_box rfl) ?_ | refine ro (st_alloc tok rfl) ?_ | refine ro (st_buildSlice tok rfl rfl rfl rfl rfl rfl rfl) ?_); rintro _ _ _ ⟨_, rfl, rfl, rfl⟩))
    exact run_ret hC (rs := [.tmp 4, .tmp 5, .tmp 6]) rfl (resT rfl (resT rfl (resT rfl resN))) (fun _ h => h) ⟨by rw [textR, if_neg (by simp [h0]), if_neg h2, if_pos h4]; rfl, rfl, rfl⟩
  have h4 : ¬ (s.size : Int) - (numR s).2.1 < (numR s).1 := by
    have := of_decide_eq_false h3
    rwa [e2] at this
  refine run_as 5 (.int .i64 (n : Int)) rfl (by rw [hn]) ?_
  refine run_as 7 (.int .u64 (v : Int)) rfl (by rw [hv]) ?_
  have e3 : IntKind.i64.wrap ((n : Int) + IntKind.i64.wrap (v : Int)) = ((n + v : Nat) : Int) := by
    rw [wrap64_nat (by omega), show (n : Int) + (v : Int) = ((n + v : Nat) : Int) by omega, wrap64_nat (by omega)]
  repeat (first | with_reducible (first | refine cS ?_ | refine cR ?_ | refine cN ?_ | refine cK ?_ | refine cB ?_ | refine cI ?_) | refine cE rfl ?_ | refine rq (qt_pev tok rfl) ?_ | refine rg rfl rfl (qt_pev tok rfl) ?_ | refine rq (ql tok rfl) ?_ | refine rg rfl rfl (ql tok rfl) ?_ | (refine runL_op0 (sst tok rfl rfl rfl rfl rfl) ?_; rintro _ _ _ ⟨rfl, rfl, rfl⟩) | ((first | refine ro (st_box rfl) ?_ | refine ro (st_alloc tok rfl) ?_ | refine ro (st_buildSlice tok rfl rfl rfl rfl rfl rfl rfl) ?_); rintro _ _ _ ⟨_, rfl, rfl, rfl⟩))
  refine runL_as 37 (.int .i64 ((n + v : Nat) : Int)) rfl (by rw [e3]) ?_
  repeat (first | with_reducible (first | refine cS ?_ | refine cR ?_ | refine cN ?_ | refine cK ?_ | refine cB ?_ | refine cI ?_) | refine cE rfl ?_ | refine rq (qt_pev tok rfl) ?_ | refine rg rfl rfl (qt_pev tok rfl) ?_ | refine rq (ql tok rfl) ?_ | refine rg rfl rfl (ql tok rfl) ?_ | (refine runL_op0 (sst tok rfl rfl rfl rfl rfl) ?_; rintro _ _ _ ⟨rfl, rfl, rfl⟩) | ((first | refine ro (st_box rfl) ?_ | refine ro (st_alloc tok rfl) ?_ | refine ro (st_buildSlice tok rfl rfl rfl rfl rfl rfl rfl) ?_); rintro _ _ _ ⟨_, rfl, rfl, rfl⟩) | refine runL_q (qt_strMid tok rfl rfl rfl rfl (fun _ => ⟨by omega, by omega⟩)) rfl rfl rfl ?_)
  refine run_ret hC (rs := [.tmp 4, .tmp 5, .tmp 6]) rfl (resT rfl (resT rfl (resT rfl resN))) (fun _ h => h) ⟨?_, rfl, rfl⟩
  rw [textR, if_neg (by simp [h0]), if_neg h2, if_neg h4, e3, hn, hv, show ((n : Int) + (v : Int)).toNat = n + v by omega, Int.toNat_natCast, show (n : Int) + (v : Int) = ((n + v : Nat) : Int) by omega]
  rfl
end Go.Proofs.Ytbpgiodfccijmaa
namespace Go.Proofs.Ytbpgiodfccijmaa
open Go.Chi

theorem runL_must {C : Cx} {n : Nat} {ops : Array Oper} {k : List Item} {ds : List Deferred} {σ : Env} {δ : Den} {M : Mem} {L : HL} {d : Nat} {ty : TypeId} {pos : String} {aft : Array Edge} {l : List Oper} {args : Array Operand} {tys : Array TypeId} {e : Int}
    (ha : evs σ δ [] args.toList = some [.int .i64 e]) (hd : Nat.blt d n = true) (hn : lkd δ d = none) (hu : unNamed δ d = true)
    (h0 : e = 0 → RunL Try.prog C n ops l k ds ((d, .tuple ⟨[]⟩) :: σ) δ M L) (h1 : e ≠ 0 → RunX Try.prog C n (.panicking (pan e)) ds σ M L) :
    RunL Try.prog C n ops (⟨some d, .call ⟨.value (.func 59), args, tys⟩, ty, pos, aft, none⟩ :: l) k ds σ δ M L := by
  refine runL_callE ha (must_ok _ _ e) hd hn hu ?_ ?_
  · rintro v _ _ ⟨rfl, rfl, hv⟩
    by_cases he : e = 0
    · rw [if_pos he, Ending.returned.injEq] at hv; subst hv; exact h0 he
    · rw [if_neg he] at hv; cases hv
  · rintro v _ _ ⟨rfl, rfl, hv⟩
    by_cases he : e = 0
    · rw [if_pos he] at hv; cases hv
    · rw [if_neg he, Ending.panicked.injEq] at hv; subst hv; exact h1 he

/-- what stands ahead of a term's parts, and how many these are; or why there is none -/
def frontR (s : ByteArray) : Except Int (Nat × Nat) :=
  if s.size = 0 then .error 6 else
  if byte s 0 = 100 then (if (textR (rest1 s) 1024).2.2 ≠ 0 then .error (textR (rest1 s) 1024).2.2 else .ok ((1 + (textR (rest1 s) 1024).2.1).toNat, 0)) else
  if byte s 0 = 97 then (if (textR (rest1 s) 32).2.2 ≠ 0 then .error (textR (rest1 s) 32).2.2 else if namedR (textR (rest1 s) 32).1 = false then .error 7 else .ok ((1 + (textR (rest1 s) 32).2.1).toNat, 0)) else
  if byte s 0 = 114 then (if (numR (rest1 s)).2.2 ≠ 0 then .error (numR (rest1 s)).2.2 else if 32 < (numR (rest1 s)).1 then .error 5 else .ok ((1 + (numR (rest1 s)).2.1).toNat, (numR (rest1 s)).1.toNat)) else
  if byte s 0 = 104 then .ok (1, 1) else
  if byte s 0 = 109 then .ok (1, 2) else
  if byte s 0 = 115 then .ok (1, 3) else .error 7
def frontK (r : Except Int (Nat × Nat)) (M : Mem) (L : HL) (en : Ending) (M' : Mem) (L' : HL) : Prop := M = M' ∧ L = L' ∧ match r with | .ok x => en = .returned (.tuple ⟨[.int .i64 (x.1 : Int), .int .i64 (x.2 : Int)]⟩) | .error e => en = .panicked (pan e)
theorem textR_len (s : ByteArray) (most : Nat) (h : (textR s most).2.2 = 0) : ∃ n : Nat, (textR s most).2.1 = n ∧ 1 ≤ n ∧ n ≤ s.size := by
  have hv := numR_pos s
  unfold textR at h ⊢
  split at h
  · rename_i h1; exact absurd h h1
  · rename_i h0
    obtain ⟨n, hn, h1, h2⟩ := numR_len s (by simpa using h0)
    rw [if_neg h0]
    split at h
    · cases h
    · rename_i h3
      rw [if_neg h3]
      split at h
      · cases h
      · rename_i h4
        rw [if_neg h4]
        exact ⟨((numR s).2.1 + (numR s).1).toNat, show (numR s).2.1 + (numR s).1 = _ by omega, by omega, by omega⟩
theorem rest1_size {s : ByteArray} : (rest1 s).size = s.size - 1 := by simp [rest1]
theorem byte_eq {s : ByteArray} {b : UInt8} {c : Int} (h : byte s 0 = (b.toNat : Int)) {t : Bool} (hb : (((b.toNat : Int) == c)) = t) : (if t then byte s 0 = c else byte s 0 ≠ c) := by
  subst hb
  split <;> rename_i h1 <;> rw [h] <;> simpa using h1
theorem one_wrap {n : Nat} (h : n < 4611686018427387904) : IntKind.i64.wrap (1 + (n : Int)) = ((1 + n : Nat) : Int) := by
  rw [show (1 : Int) + (n : Int) = ((1 + n : Nat) : Int) by omega, wrap64_nat (by omega)]
set_option maxRecDepth 10000 in
set_option maxHeartbeats 8000000 in
theorem front_ok (M : Mem) (L : HL) (s : ByteArray) (hs : s.size < 4611686018427387904) : TrE Try.prog 68 [.string s] M L (frontK (frontR s) M L) := by
  refine TrE.intro 73 Try.func68 rfl rfl Try.call68 rfl ?_
  intro C hC hro
  repeat (first | with_reducible (first | refine cS ?_ | refine cR ?_ | refine cN ?_ | refine cK ?_ | refine cB ?_ | refine cI ?_) | refine cE rfl ?_ | refine rq (qt_pev tok rfl) ?_ | refine rg rfl rfl (qt_pev tok rfl) ?_ | refine rq (ql tok rfl) ?_ | refine rg rfl rfl (ql tok rfl) ?_ | (refine runL_op0 (sst tok rfl rfl rfl rfl rfl) ?_; rintro _ _ _ ⟨rfl, rfl, rfl⟩) | ((first | refine ro (st_box rfl) ?_ | refine ro (st_alloc tok rfl) ?_ | refine ro (st_buildSlice tok rfl rfl rfl rfl rfl rfl rfl) ?_); rintro _ _ _ ⟨_, rfl, rfl, rfl⟩))
  refine run_cond rfl (fun h => ?_) (fun h => ?_)
  · repeat (first | with_reducible (first | refine cS ?_ | refine cR ?_ | refine cN ?_ | refine cK ?_ | refine cB ?_ | refine cI ?_) | refine cE rfl ?_ | refine rq (qt_pev tok rfl) ?_ | refine rg rfl rfl (qt_pev tok rfl) ?_ | refine rq (ql tok rfl) ?_ | refine rg rfl rfl (ql tok rfl) ?_ | (refine runL_op0 (sst tok rfl rfl rfl rfl rfl) ?_; rintro _ _ _ ⟨rfl, rfl, rfl⟩) | ((first | refine ro (st_box rfl) ?_ | refine ro (st_alloc tok rfl) ?_ | refine ro (st_buildSlice tok rfl rfl rfl rfl rfl rfl rfl) ?_); rintro _ _ _ ⟨_, rfl, rfl, rfl⟩))
    rw [empty_beq, decide_eq_true_eq] at h
    refine runL_must rfl rfl rfl rfl (fun h => by cases h) (fun _ => ?_)
    exact runX_pan hC (fun _ h => h) ⟨rfl, rfl, by rw [frontR, if_pos h]⟩
  rw [empty_beq, decide_eq_false_iff_not] at h
  have hp : 0 < s.size := by omega
  obtain ⟨b0, hb0, hb0'⟩ := byte_at hp
  have hr : (rest1 s).size < 4611686018427387904 := by rw [rest1_size]; omega
  repeat (first | with_reducible (first | refine cS ?_ | refine cR ?_ | refine cN ?_ | refine cK ?_ | refine cB ?_ | refine cI ?_) | refine cE rfl ?_ | refine rq (qt_pev tok rfl) ?_ | refine rg rfl rfl (qt_pev tok rfl) ?_ | refine rq (ql tok rfl) ?_ | refine rg rfl rfl (ql tok rfl) ?_ | (refine runL_op0 (sst tok rfl rfl rfl rfl rfl) ?_; rintro _ _ _ ⟨rfl, rfl, rfl⟩) | ((first | refine ro (st_box rfl) ?_ | refine ro (st_alloc tok rfl) ?_ | refine ro (st_buildSlice tok rfl rfl rfl rfl rfl rfl rfl) ?_); rintro _ _ _ ⟨_, rfl, rfl, rfl⟩) | refine runL_q (qt_strIndex (n := 0) tok rfl rfl rfl (fun _ => hb0)) rfl rfl rfl ?_)
  refine run_cond rfl (fun h1 => ?_) (fun h1 => ?_)
  · have hb1 : byte s 0 = 100 := byte_eq hb0' h1
    repeat (first | with_reducible (first | refine cS ?_ | refine cR ?_ | refine cN ?_ | refine cK ?_ | refine cB ?_ | refine cI ?_) | refine cE rfl ?_ | refine rq (qt_pev tok rfl) ?_ | refine rg rfl rfl (qt_pev tok rfl) ?_ | refine rq (ql tok rfl) ?_ | refine rg rfl rfl (ql tok rfl) ?_ | (refine runL_op0 (sst tok rfl rfl rfl rfl rfl) ?_; rintro _ _ _ ⟨rfl, rfl, rfl⟩) | ((first | refine ro (st_box rfl) ?_ | refine ro (st_alloc tok rfl) ?_ | refine ro (st_buildSlice tok rfl rfl rfl rfl rfl rfl rfl) ?_); rintro _ _ _ ⟨_, rfl, rfl, rfl⟩) | refine runL_q (qt_strLo (n := 1) tok rfl rfl rfl (fun _ => hp)) rfl rfl rfl ?_ | refine runL_q (qt_callF rfl (fun _ => readText_ok _ _ (rest1 s) 1024 hr (by decide))) rfl rfl rfl ?_)
    refine runL_must rfl rfl rfl rfl (fun h2 => ?_) (fun h2 => ?_)
    · obtain ⟨m, hm, hm1, hm2⟩ := textR_len _ _ h2
      repeat (first | with_reducible (first | refine cS ?_ | refine cR ?_ | refine cN ?_ | refine cK ?_ | refine cB ?_ | refine cI ?_) | refine cE rfl ?_ | refine rq (qt_pev tok rfl) ?_ | refine rg rfl rfl (qt_pev tok rfl) ?_ | refine rq (ql tok rfl) ?_ | refine rg rfl rfl (ql tok rfl) ?_ | (refine runL_op0 (sst tok rfl rfl rfl rfl rfl) ?_; rintro _ _ _ ⟨rfl, rfl, rfl⟩) | ((first | refine ro (st_box rfl) ?_ | refine ro (st_alloc tok rfl) ?_ | refine ro (st_buildSlice tok rfl rfl rfl rfl rfl rfl rfl) ?_); rintro _ _ _ ⟨_, rfl, rfl, rfl⟩))
      refine run_retX hro ?_
      refine runX_ret hC (rs := [.tmp 2, .tmp 3]) rfl (resT rfl (resT rfl resN)) (fun _ h => h) ⟨rfl, rfl, ?_⟩
      rw [frontR, if_neg h, if_pos hb1, if_neg (by simp [h2]), hm, one_wrap (by omega), show (1 + (m : Int)).toNat = 1 + m by omega]
      rfl
    · exact runX_pan hC (fun _ h => h) ⟨rfl, rfl, by rw [frontR, if_neg h, if_pos hb1, if_pos h2]⟩
  have hb1 : byte s 0 ≠ 100 := byte_eq hb0' h1
  repeat (first | with_reducible (first | refine cS ?_ | refine cR ?_ | refine cN ?_ | refine cK ?_ | refine cB ?_ | refine cI ?_) | refine cE rfl ?_ | refine rq (qt_pev tok rfl) ?_ | refine rg rfl rfl (qt_pev tok rfl) ?_ | refine rq (ql tok rfl) ?_ | refine rg rfl rfl (ql tok rfl) ?_ | (refine runL_op0 (sst tok rfl rfl rfl rfl rfl) ?_; rintro _ _ _ ⟨rfl, rfl, rfl⟩) | ((first | refine ro (st_box rfl) ?_ | refine ro (st_alloc tok rfl) ?_ | refine ro (st_buildSlice tok rfl rfl rfl rfl rfl rfl rfl) ?_); rintro _ _ _ ⟨_, rfl, rfl, rfl⟩))
  refine run_cond rfl (fun h1 => ?_) (fun h1 => ?_)
  · have hb2 : byte s 0 = 97 := byte_eq hb0' h1
    repeat (first | with_reducible (first | refine cS ?_ | refine cR ?_ | refine cN ?_ | refine cK ?_ | refine cB ?_ | refine cI ?_) | refine cE rfl ?_ | refine rq (qt_pev tok rfl) ?_ | refine rg rfl rfl (qt_pev tok rfl) ?_ | refine rq (ql tok rfl) ?_ | refine rg rfl rfl (ql tok rfl) ?_ | (refine runL_op0 (sst tok rfl rfl rfl rfl rfl) ?_; rintro _ _ _ ⟨rfl, rfl, rfl⟩) | ((first | refine ro (st_box rfl) ?_ | refine ro (st_alloc tok rfl) ?_ | refine ro (st_buildSlice tok rfl rfl rfl rfl rfl rfl rfl) ?_); rintro _ _ _ ⟨_, rfl, rfl, rfl⟩) | refine runL_q (qt_strLo (n := 1) tok rfl rfl rfl (fun _ => hp)) rfl rfl rfl ?_ | refine runL_q (qt_callF rfl (fun _ => readText_ok _ _ (rest1 s) 32 hr (by decide))) rfl rfl rfl ?_)
    refine runL_must rfl rfl rfl rfl (fun h2 => ?_) (fun h2 => ?_)
    · obtain ⟨m, hm, hm1, hm2⟩ := textR_len _ _ h2
      repeat (first | with_reducible (first | refine cS ?_ | refine cR ?_ | refine cN ?_ | refine cK ?_ | refine cB ?_ | refine cI ?_) | refine cE rfl ?_ | refine rq (qt_pev tok rfl) ?_ | refine rg rfl rfl (qt_pev tok rfl) ?_ | refine rq (ql tok rfl) ?_ | refine rg rfl rfl (ql tok rfl) ?_ | (refine runL_op0 (sst tok rfl rfl rfl rfl rfl) ?_; rintro _ _ _ ⟨rfl, rfl, rfl⟩) | ((first | refine ro (st_box rfl) ?_ | refine ro (st_alloc tok rfl) ?_ | refine ro (st_buildSlice tok rfl rfl rfl rfl rfl rfl rfl) ?_); rintro _ _ _ ⟨_, rfl, rfl, rfl⟩) | refine runL_q (qt_callF rfl (fun _ => named_ok _ _ _)) rfl rfl rfl ?_)
      refine run_cond rfl (fun h3 => ?_) (fun h3 => ?_)
      · have h4 : namedR (textR (rest1 s) 32).1 = false := by simpa using h3
        repeat (first | with_reducible (first | refine cS ?_ | refine cR ?_ | refine cN ?_ | refine cK ?_ | refine cB ?_ | refine cI ?_) | refine cE rfl ?_ | refine rq (qt_pev tok rfl) ?_ | refine rg rfl rfl (qt_pev tok rfl) ?_ | refine rq (ql tok rfl) ?_ | refine rg rfl rfl (ql tok rfl) ?_ | (refine runL_op0 (sst tok rfl rfl rfl rfl rfl) ?_; rintro _ _ _ ⟨rfl, rfl, rfl⟩) | ((first | refine ro (st_box rfl) ?_ | refine ro (st_alloc tok rfl) ?_ | refine ro (st_buildSlice tok rfl rfl rfl rfl rfl rfl rfl) ?_); rintro _ _ _ ⟨_, rfl, rfl, rfl⟩))
        refine runL_must rfl rfl rfl rfl (fun h => by cases h) (fun _ => ?_)
        exact runX_pan hC (fun _ h => h) ⟨rfl, rfl, by rw [frontR, if_neg h, if_neg hb1, if_pos hb2, if_neg (by simp [h2]), if_pos h4]⟩
      · have h4 : ¬ namedR (textR (rest1 s) 32).1 = false := by simpa using h3
        repeat (first | with_reducible (first | refine cS ?_ | refine cR ?_ | refine cN ?_ | refine cK ?_ | refine cB ?_ | refine cI ?_) | refine cE rfl ?_ | refine rq (qt_pev tok rfl) ?_ | refine rg rfl rfl (qt_pev tok rfl) ?_ | refine rq (ql tok rfl) ?_ | refine rg rfl rfl (ql tok rfl) ?_ | (refine runL_op0 (sst tok rfl rfl rfl rfl rfl) ?_; rintro _ _ _ ⟨rfl, rfl, rfl⟩) | ((first | refine ro (st_box rfl) ?_ | refine ro (st_alloc tok rfl) ?_ | refine ro (st_buildSlice tok rfl rfl rfl rfl rfl rfl rfl) ?_); rintro _ _ _ ⟨_, rfl, rfl, rfl⟩))
        refine run_retX hro ?_
        refine runX_ret hC (rs := [.tmp 2, .tmp 3]) rfl (resT rfl (resT rfl resN)) (fun _ h => h) ⟨rfl, rfl, ?_⟩
        rw [frontR, if_neg h, if_neg hb1, if_pos hb2, if_neg (by simp [h2]), if_neg h4, hm, one_wrap (by omega), show (1 + (m : Int)).toNat = 1 + m by omega]
        rfl
    · exact runX_pan hC (fun _ h => h) ⟨rfl, rfl, by rw [frontR, if_neg h, if_neg hb1, if_pos hb2, if_pos h2]⟩
  have hb2 : byte s 0 ≠ 97 := byte_eq hb0' h1
  repeat (first | with_reducible (first | refine cS ?_ | refine cR ?_ | refine cN ?_ | refine cK ?_ | refine cB ?_ | refine cI ?_) | refine cE rfl ?_ | refine rq (qt_pev tok rfl) ?_ | refine rg rfl rfl (qt_pev tok rfl) ?_ | refine rq (ql tok rfl) ?_ | refine rg rfl rfl (ql tok rfl) ?_ | (refine runL_op0 (sst tok rfl rfl rfl rfl rfl) ?_; rintro _ _ _ ⟨rfl, rfl, rfl⟩) | ((first | refine ro (st_box rfl) ?_ | refine ro (st_alloc tok rfl) ?_ | refine ro (st_buildSlice tok rfl rfl rfl rfl rfl rfl rfl) ?_); rintro _ _ _ ⟨_, rfl, rfl, rfl⟩))
  refine run_cond rfl (fun h1 => ?_) (fun h1 => ?_)
  · have hb3 : byte s 0 = 114 := byte_eq hb0' h1
    repeat (first | with_reducible (first | refine cS ?_ | refine cR ?_ | refine cN ?_ | refine cK ?_ | refine cB ?_ | refine cI ?_) | refine cE rfl ?_ | refine rq (qt_pev tok rfl) ?_ | refine rg rfl rfl (qt_pev tok rfl) ?_ | refine rq (ql tok rfl) ?_ | refine rg rfl rfl (ql tok rfl) ?_ | (refine runL_op0 (sst tok rfl rfl rfl rfl rfl) ?_; rintro _ _ _ ⟨rfl, rfl, rfl⟩) | ((first | refine ro (st_box rfl) ?_ | refine ro (st_alloc tok rfl) ?_ | refine ro (st_buildSlice tok rfl rfl rfl rfl rfl rfl rfl) ?_); rintro _ _ _ ⟨_, rfl, rfl, rfl⟩) | refine runL_q (qt_strLo (n := 1) tok rfl rfl rfl (fun _ => hp)) rfl rfl rfl ?_ | refine runL_q (qt_callF rfl (fun _ => readNum_ok _ _ (rest1 s))) rfl rfl rfl ?_)
    refine runL_must rfl rfl rfl rfl (fun h2 => ?_) (fun h2 => ?_)
    · obtain ⟨m, hm, hm1, hm2⟩ := numR_len _ h2
      have hv0 := numR_pos (rest1 s)
      repeat (first | with_reducible (first | refine cS ?_ | refine cR ?_ | refine cN ?_ | refine cK ?_ | refine cB ?_ | refine cI ?_) | refine cE rfl ?_ | refine rq (qt_pev tok rfl) ?_ | refine rg rfl rfl (qt_pev tok rfl) ?_ | refine rq (ql tok rfl) ?_ | refine rg rfl rfl (ql tok rfl) ?_ | (refine runL_op0 (sst tok rfl rfl rfl rfl rfl) ?_; rintro _ _ _ ⟨rfl, rfl, rfl⟩) | ((first | refine ro (st_box rfl) ?_ | refine ro (st_alloc tok rfl) ?_ | refine ro (st_buildSlice tok rfl rfl rfl rfl rfl rfl rfl) ?_); rintro _ _ _ ⟨_, rfl, rfl, rfl⟩))
      refine run_cond rfl (fun h3 => ?_) (fun h3 => ?_)
      · have h4 : 32 < (numR (rest1 s)).1 := by simpa using h3
        repeat (first | with_reducible (first | refine cS ?_ | refine cR ?_ | refine cN ?_ | refine cK ?_ | refine cB ?_ | refine cI ?_) | refine cE rfl ?_ | refine rq (qt_pev tok rfl) ?_ | refine rg rfl rfl (qt_pev tok rfl) ?_ | refine rq (ql tok rfl) ?_ | refine rg rfl rfl (ql tok rfl) ?_ | (refine runL_op0 (sst tok rfl rfl rfl rfl rfl) ?_; rintro _ _ _ ⟨rfl, rfl, rfl⟩) | ((first | refine ro (st_box rfl) ?_ | refine ro (st_alloc tok rfl) ?_ | refine ro (st_buildSlice tok rfl rfl rfl rfl rfl rfl rfl) ?_); rintro _ _ _ ⟨_, rfl, rfl, rfl⟩))
        refine runL_must rfl rfl rfl rfl (fun h => by cases h) (fun _ => ?_)
        exact runX_pan hC (fun _ h => h) ⟨rfl, rfl, by rw [frontR, if_neg h, if_neg hb1, if_neg hb2, if_pos hb3, if_neg (by simp [h2]), if_pos h4]⟩
      · have h4 : ¬ 32 < (numR (rest1 s)).1 := by simpa using h3
        repeat (first | with_reducible (first | refine cS ?_ | refine cR ?_ | refine cN ?_ | refine cK ?_ | refine cB ?_ | refine cI ?_) | refine cE rfl ?_ | refine rq (qt_pev tok rfl) ?_ | refine rg rfl rfl (qt_pev tok rfl) ?_ | refine rq (ql tok rfl) ?_ | refine rg rfl rfl (ql tok rfl) ?_ | (refine runL_op0 (sst tok rfl rfl rfl rfl rfl) ?_; rintro _ _ _ ⟨rfl, rfl, rfl⟩) | ((first | refine ro (st_box rfl) ?_ | refine ro (st_alloc tok rfl) ?_ | refine ro (st_buildSlice tok rfl rfl rfl rfl rfl rfl rfl) ?_); rintro _ _ _ ⟨_, rfl, rfl, rfl⟩))
        refine run_retX hro ?_
        refine runX_ret hC (rs := [.tmp 2, .tmp 3]) rfl (resT rfl (resT rfl resN)) (fun _ h => h) ⟨rfl, rfl, ?_⟩
        obtain ⟨v, hv⟩ : ∃ v : Nat, (numR (rest1 s)).1 = v := ⟨(numR (rest1 s)).1.toNat, by omega⟩
        rw [frontR, if_neg h, if_neg hb1, if_neg hb2, if_pos hb3, if_neg (by simp [h2]), if_neg h4, hm, hv, one_wrap (by omega), wrap64_nat (by omega), show (1 + (m : Int)).toNat = 1 + m by omega, Int.toNat_natCast]
        rfl
    · exact runX_pan hC (fun _ h => h) ⟨rfl, rfl, by rw [frontR, if_neg h, if_neg hb1, if_neg hb2, if_pos hb3, if_pos h2]⟩
  have hb3 : byte s 0 ≠ 114 := byte_eq hb0' h1
  repeat (first | with_reducible (first | refine cS ?_ | refine cR ?_ | refine cN ?_ | refine cK ?_ | refine cB ?_ | refine cI ?_) | refine cE rfl ?_ | refine rq (qt_pev tok rfl) ?_ | refine rg rfl rfl (qt_pev tok rfl) ?_ | refine rq (ql tok rfl) ?_ | refine rg rfl rfl (ql tok rfl) ?_ | (refine runL_op0 (sst tok rfl rfl rfl rfl rfl) ?_; rintro _ _ _ ⟨rfl, rfl, rfl⟩) | ((first | refine ro (st_box rfl) ?_ | refine ro (st_alloc tok rfl) ?_ | refine ro (st_buildSlice tok rfl rfl rfl rfl rfl rfl rfl) ?_); rintro _ _ _ ⟨_, rfl, rfl, rfl⟩))
  refine run_cond rfl (fun h1 => ?_) (fun h1 => ?_)
  · have hb4 : byte s 0 = 104 := byte_eq hb0' h1
    repeat (first | with_reducible (first | refine cS ?_ | refine cR ?_ | refine cN ?_ | refine cK ?_ | refine cB ?_ | refine cI ?_) | refine cE rfl ?_ | refine rq (qt_pev tok rfl) ?_ | refine rg rfl rfl (qt_pev tok rfl) ?_ | refine rq (ql tok rfl) ?_ | refine rg rfl rfl (ql tok rfl) ?_ | (refine runL_op0 (sst tok rfl rfl rfl rfl rfl) ?_; rintro _ _ _ ⟨rfl, rfl, rfl⟩) | ((first | refine ro (st_box rfl) ?_ | refine ro (st_alloc tok rfl) ?_ | refine ro (st_buildSlice tok rfl rfl rfl rfl rfl rfl rfl) ?_); rintro _ _ _ ⟨_, rfl, rfl, rfl⟩))
    refine run_retX hro ?_
    refine runX_ret hC (rs := [.tmp 2, .tmp 3]) rfl (resT rfl (resT rfl resN)) (fun _ h => h) ⟨rfl, rfl, ?_⟩
    rw [frontR, if_neg h, if_neg hb1, if_neg hb2, if_neg hb3, if_pos hb4]; rfl
  have hb4 : byte s 0 ≠ 104 := byte_eq hb0' h1
  repeat (first | with_reducible (first | refine cS ?_ | refine cR ?_ | refine cN ?_ | refine cK ?_ | refine cB ?_ | refine cI ?_) | refine cE rfl ?_ | refine rq (qt_pev tok rfl) ?_ | refine rg rfl rfl (qt_pev tok rfl) ?_ | refine rq (ql tok rfl) ?_ | refine rg rfl rfl (ql tok rfl) ?_ | (refine runL_op0 (sst tok rfl rfl rfl rfl rfl) ?_; rintro _ _ _ ⟨rfl, rfl, rfl⟩) | ((first | refine ro (st_box rfl) ?_ | refine ro (st_alloc tok rfl) ?_ | refine ro (st_buildSlice tok rfl rfl rfl rfl rfl rfl rfl) ?_); rintro _ _ _ ⟨_, rfl, rfl, rfl⟩))
  refine run_cond rfl (fun h1 => ?_) (fun h1 => ?_)
  · have hb5 : byte s 0 = 109 := byte_eq hb0' h1
    repeat (first | with_reducible (first | refine cS ?_ | refine cR ?_ | refine cN ?_ | refine cK ?_ | refine cB ?_ | refine cI ?_) | refine cE rfl ?_ | refine rq (qt_pev tok rfl) ?_ | refine rg rfl rfl (qt_pev tok rfl) ?_ | refine rq (ql tok rfl) ?_ | refine rg rfl rfl (ql tok rfl) ?_ | (refine runL_op0 (sst tok rfl rfl rfl rfl rfl) ?_; rintro _ _ _ ⟨rfl, rfl, rfl⟩) | ((first | refine ro (st_box rfl) ?_ | refine ro (st_alloc tok rfl) ?_ | refine ro (st_buildSlice tok rfl rfl rfl rfl rfl rfl rfl) ?_); rintro _ _ _ ⟨_, rfl, rfl, rfl⟩))
    refine run_retX hro ?_
    refine runX_ret hC (rs := [.tmp 2, .tmp 3]) rfl (resT rfl (resT rfl resN)) (fun _ h => h) ⟨rfl, rfl, ?_⟩
    rw [frontR, if_neg h, if_neg hb1, if_neg hb2, if_neg hb3, if_neg hb4, if_pos hb5]; rfl
  have hb5 : byte s 0 ≠ 109 := byte_eq hb0' h1
  repeat (first | with_reducible (first | refine cS ?_ | refine cR ?_ | refine cN ?_ | refine cK ?_ | refine cB ?_ | refine cI ?_) | refine cE rfl ?_ | refine rq (qt_pev tok rfl) ?_ | refine rg rfl rfl (qt_pev tok rfl) ?_ | refine rq (ql tok rfl) ?_ | refine rg rfl rfl (ql tok rfl) ?_ | (refine runL_op0 (sst tok rfl rfl rfl rfl rfl) ?_; rintro _ _ _ ⟨rfl, rfl, rfl⟩) | ((first | refine ro (st_box rfl) ?_ | refine ro (st_alloc tok rfl) ?_ | refine ro (st_buildSlice tok rfl rfl rfl rfl rfl rfl rfl) ?_); rintro _ _ _ ⟨_, rfl, rfl, rfl⟩))
  refine run_cond rfl (fun h1 => ?_) (fun h1 => ?_)
  · have hb6 : byte s 0 = 115 := byte_eq hb0' h1
    repeat (first | with_reducible (first | refine cS ?_ | refine cR ?_ | refine cN ?_ | refine cK ?_ | refine cB ?_ | refine cI ?_) | refine cE rfl ?_ | refine rq (qt_pev tok rfl) ?_ | refine rg rfl rfl (qt_pev tok rfl) ?_ | refine rq (ql tok rfl) ?_ | refine rg rfl rfl (ql tok rfl) ?_ | (refine runL_op0 (sst tok rfl rfl rfl rfl rfl) ?_; rintro _ _ _ ⟨rfl, rfl, rfl⟩) | ((first | refine ro (st_box rfl) ?_ | refine ro (st_alloc tok rfl) ?_ | refine ro (st_buildSlice tok rfl rfl rfl rfl rfl rfl rfl) ?_); rintro _ _ _ ⟨_, rfl, rfl, rfl⟩))
    refine run_retX hro ?_
    refine runX_ret hC (rs := [.tmp 2, .tmp 3]) rfl (resT rfl (resT rfl resN)) (fun _ h => h) ⟨rfl, rfl, ?_⟩
    rw [frontR, if_neg h, if_neg hb1, if_neg hb2, if_neg hb3, if_neg hb4, if_neg hb5, if_pos hb6]; rfl
  have hb6 : byte s 0 ≠ 115 := byte_eq hb0' h1
  repeat (first | with_reducible (first | refine cS ?_ | refine cR ?_ | refine cN ?_ | refine cK ?_ | refine cB ?_ | refine cI ?_) | refine cE rfl ?_ | refine rq (qt_pev tok rfl) ?_ | refine rg rfl rfl (qt_pev tok rfl) ?_ | refine rq (ql tok rfl) ?_ | refine rg rfl rfl (ql tok rfl) ?_ | (refine runL_op0 (sst tok rfl rfl rfl rfl rfl) ?_; rintro _ _ _ ⟨rfl, rfl, rfl⟩) | ((first | refine ro (st_box rfl) ?_ | refine ro (st_alloc tok rfl) ?_ | refine ro (st_buildSlice tok rfl rfl rfl rfl rfl rfl rfl) ?_); rintro _ _ _ ⟨_, rfl, rfl, rfl⟩))
  refine runL_must rfl rfl rfl rfl (fun h => by cases h) (fun _ => ?_)
  exact runX_pan hC (fun _ h => h) ⟨rfl, rfl, by rw [frontR, if_neg h, if_neg hb1, if_neg hb2, if_neg hb3, if_neg hb4, if_neg hb5, if_neg hb6]⟩
end Go.Proofs.Ytbpgiodfccijmaa
namespace Go.Proofs.Ytbpgiodfccijmaa
open Go.Chi

theorem frontR_len {s : ByteArray} {n p : Nat} (h : frontR s = .ok (n, p)) : 1 ≤ n ∧ n ≤ s.size ∧ p ≤ 32 := by
  have hr := rest1_size (s := s)
  unfold frontR at h
  split at h
  · cases h
  rename_i h0
  split at h
  · split at h
    · cases h
    · rename_i h2
      obtain ⟨m, hm, _, _⟩ := textR_len (rest1 s) 1024 (by simpa using h2)
      simp only [Except.ok.injEq, Prod.mk.injEq] at h
      omega
  split at h
  · split at h
    · cases h
    · split at h
      · cases h
      · rename_i h2 _
        obtain ⟨m, hm, _, _⟩ := textR_len (rest1 s) 32 (by simpa using h2)
        simp only [Except.ok.injEq, Prod.mk.injEq] at h
        omega
  split at h
  · split at h
    · cases h
    · split at h
      · cases h
      · rename_i h2 _
        obtain ⟨m, hm, _, _⟩ := numR_len (rest1 s) (by simpa using h2)
        simp only [Except.ok.injEq, Prod.mk.injEq] at h
        have := numR_pos (rest1 s)
        omega
  split at h
  · simp only [Except.ok.injEq, Prod.mk.injEq] at h; omega
  split at h
  · simp only [Except.ok.injEq, Prod.mk.injEq] at h; omega
  split at h
  · simp only [Except.ok.injEq, Prod.mk.injEq] at h; omega
  · cases h
/-- one reading behind the other -/
def iter (f : Nat → Except Int Nat) : Nat → Nat → Except Int Nat
  | 0, x => .ok x
  | i + 1, x => match f x with
    | .error e => .error e
    | .ok y => iter f i y
/-- where the term at a place ends, which has so many depths left -/
def walkR (s : ByteArray) : Nat → Nat → Except Int Nat
  | 0, _ => .error 60
  | k + 1, a => match frontR (s.extract a s.size) with
    | .error e => .error e
    | .ok x => iter (walkR s k) x.2 (a + x.1)
theorem iter_len {f : Nat → Except Int Nat} {N : Nat} (hf : ∀ x y, x ≤ N → f x = .ok y → y ≤ N) : ∀ i x y, x ≤ N → iter f i x = .ok y → y ≤ N
  | 0, x, y, hx, h => by rw [iter, Except.ok.injEq] at h; omega
  | i + 1, x, y, hx, h => by
    rw [iter] at h
    split at h
    · cases h
    · rename_i z hz
      exact iter_len hf i z y (hf _ _ hx hz) h
theorem walkR_len (s : ByteArray) : ∀ k a y, a ≤ s.size → walkR s k a = .ok y → y ≤ s.size
  | 0, a, y, _, h => by cases h
  | k + 1, a, y, ha, h => by
    rw [walkR] at h
    split at h
    · cases h
    · rename_i x hx
      have := frontR_len (n := x.1) (p := x.2) hx
      have hz : (s.extract a s.size).size = s.size - a := by simp
      exact iter_len (walkR_len s k) _ _ _ (by omega) h
set_option maxRecDepth 10000 in
set_option maxHeartbeats 4000000 in
theorem walk_ok (M : Mem) (s : ByteArray) (hs : s.size < 4611686018427387904) : ∀ (k : Nat), k ≤ 16 → ∀ (L : HL) (a : Nat), a ≤ s.size → TrE Try.prog 57 [.string s, .int .i64 (a : Int), .int .i64 ((17 - k : Nat) : Int), fv 58] M L (walkK (walkR s k a) M L) := by
  intro k
  induction k with
  | zero =>
    intro _ L a ha
    refine TrE.intro 41 Try.func57 rfl rfl Try.call57 rfl ?_
    intro C hC hro
    repeat (first | with_reducible (first | refine cS ?_ | refine cR ?_ | refine cN ?_ | refine cK ?_ | refine cB ?_ | refine cI ?_) | refine cE rfl ?_ | refine rq (qt_pev tok rfl) ?_ | refine rg rfl rfl (qt_pev tok rfl) ?_ | refine rq (ql tok rfl) ?_ | refine rg rfl rfl (ql tok rfl) ?_ | (refine runL_op0 (sst tok rfl rfl rfl rfl rfl) ?_; rintro _ _ _ ⟨rfl, rfl, rfl⟩) | ((first | refine ro (st_box rfl) ?_ | refine ro (st_alloc tok rfl) ?_ | refine ro (st_buildSlice tok rfl rfl rfl rfl rfl rfl rfl) ?_); rintro _ _ _ ⟨_, rfl, rfl, rfl⟩))
    refine run_cond rfl (fun h => ?_) (fun h => by cases h)
    repeat (first | with_reducible (first | refine cS ?_ | refine cR ?_ | refine cN ?_ | refine cK ?_ | refine cB ?_ | refine cI ?_) | refine cE rfl ?_ | refine rq (qt_pev tok rfl) ?_ | refine rg rfl rfl (qt_pev tok rfl) ?_ | refine rq (ql tok rfl) ?_ | refine rg rfl rfl (ql tok rfl) ?_ | (refine runL_op0 (sst tok rfl rfl rfl rfl rfl) ?_; rintro _ _ _ ⟨rfl, rfl, rfl⟩) | ((first | refine ro (st_box rfl) ?_ | refine ro (st_alloc tok rfl) ?_ | refine ro (st_buildSlice tok rfl rfl rfl rfl rfl rfl rfl) ?_); rintro _ _ _ ⟨_, rfl, rfl, rfl⟩))
    refine runL_must rfl rfl rfl rfl (fun h => by cases h) (fun _ => ?_)
    exact runX_pan hC (fun _ h => h) ⟨rfl, rfl, rfl⟩
  | succ k ih =>
    intro hk L a ha
    refine TrE.intro 41 Try.func57 rfl rfl Try.call57 rfl ?_
    intro C hC hro
    repeat (first | with_reducible (first | refine cS ?_ | refine cR ?_ | refine cN ?_ | refine cK ?_ | refine cB ?_ | refine cI ?_) | refine cE rfl ?_ | refine rq (qt_pev tok rfl) ?_ | refine rg rfl rfl (qt_pev tok rfl) ?_ | refine rq (ql tok rfl) ?_ | refine rg rfl rfl (ql tok rfl) ?_ | (refine runL_op0 (sst tok rfl rfl rfl rfl rfl) ?_; rintro _ _ _ ⟨rfl, rfl, rfl⟩) | ((first | refine ro (st_box rfl) ?_ | refine ro (st_alloc tok rfl) ?_ | refine ro (st_buildSlice tok rfl rfl rfl rfl rfl rfl rfl) ?_); rintro _ _ _ ⟨_, rfl, rfl, rfl⟩))
    refine run_cond rfl (fun h => ?_) (fun h => ?_)
    · exfalso
      have : (16 : Int) < ((17 - (k + 1) : Nat) : Int) := by simpa using h
      omega
    have hz : (s.extract a s.size).size = s.size - a := by simp
    repeat (first | with_reducible (first | refine cS ?_ | refine cR ?_ | refine cN ?_ | refine cK ?_ | refine cB ?_ | refine cI ?_) | refine cE rfl ?_ | refine rq (qt_pev tok rfl) ?_ | refine rg rfl rfl (qt_pev tok rfl) ?_ | refine rq (ql tok rfl) ?_ | refine rg rfl rfl (ql tok rfl) ?_ | (refine runL_op0 (sst tok rfl rfl rfl rfl rfl) ?_; rintro _ _ _ ⟨rfl, rfl, rfl⟩) | ((first | refine ro (st_box rfl) ?_ | refine ro (st_alloc tok rfl) ?_ | refine ro (st_buildSlice tok rfl rfl rfl rfl rfl rfl rfl) ?_); rintro _ _ _ ⟨_, rfl, rfl, rfl⟩) | refine runL_q (qt_strLo tok rfl rfl rfl (fun _ => ha)) rfl rfl rfl ?_)
    refine runL_callE rfl (front_ok _ _ _ (by omega)) rfl rfl rfl ?_ ?_
    rotate_left
    · rintro ch _ _ ⟨rfl, rfl, hv⟩
      cases hf : frontR (s.extract a s.size) with
      | ok x => rw [hf] at hv; cases hv
      | error e =>
        rw [hf] at hv
        simp only [Ending.panicked.injEq] at hv
        subst hv
        exact runX_pan hC (fun _ h => h) ⟨rfl, rfl, by rw [walkR, hf]⟩
    rintro v _ _ ⟨rfl, rfl, hv⟩
    cases hf : frontR (s.extract a s.size) with
    | error e => rw [hf] at hv; cases hv
    | ok x =>
      rw [hf] at hv
      simp only [Ending.returned.injEq] at hv
      subst hv
      have hx := frontR_len (n := x.1) (p := x.2) hf
      have hw : walkR s (k + 1) a = iter (walkR s k) x.2 (a + x.1) := by rw [walkR, hf]
      have e1 : IntKind.i64.wrap ((a : Int) + (x.1 : Int)) = ((a + x.1 : Nat) : Int) := by
        rw [show (a : Int) + (x.1 : Int) = ((a + x.1 : Nat) : Int) by omega, wrap64_nat (by omega)]
      repeat (first | with_reducible (first | refine cS ?_ | refine cR ?_ | refine cN ?_ | refine cK ?_ | refine cB ?_ | refine cI ?_) | refine cE rfl ?_ | refine rq (qt_pev tok rfl) ?_ | refine rg rfl rfl (qt_pev tok rfl) ?_ | refine rq (ql tok rfl) ?_ | refine rg rfl rfl (ql tok rfl) ?_ | (refine runL_op0 (sst tok rfl rfl rfl rfl rfl) ?_; rintro _ _ _ ⟨rfl, rfl, rfl⟩) | ((first | refine ro (st_box rfl) ?_ | refine ro (st_alloc tok rfl) ?_ | refine ro (st_buildSlice tok rfl rfl rfl rfl rfl rfl rfl) ?_); rintro _ _ _ ⟨_, rfl, rfl, rfl⟩))
      refine run_loopN (fun i σ1 M1 L1 => i ≤ x.2 ∧ ∃ y, y ≤ s.size ∧ iter (walkR s k) (x.2 - i) y = walkR s (k + 1) a ∧ σ1 = [(0, .string s), (1, .int .i64 (a : Int)), (2, .int .i64 ((17 - (k + 1) : Nat) : Int)), (3, fv 58), (11, .int .i64 (y : Int)), (25, .int .i64 (x.2 : Int)), (26, .int .i64 (i : Int))] ∧ M = M1 ∧ L = L1) x.2 [(0, .string s), (1, .int .i64 (a : Int)), (2, .int .i64 ((17 - (k + 1) : Nat) : Int)), (3, fv 58), (11, .int .i64 ((a + x.1 : Nat) : Int)), (25, .int .i64 (x.2 : Int)), (26, .int .i64 ((0 : Nat) : Int))] ?_ ⟨Nat.zero_le _, a + x.1, by omega, hw.symm, rfl, rfl, rfl⟩ (fun j _ _ _ h => h.1) ?_
      · exact ⟨rfl, rfl, rfl, rfl, by rw [← e1]; rfl, rfl, rfl, trivial⟩
      rintro i _ _ _ ⟨hi, y, hy, hit, rfl, rfl, rfl⟩ hnext
      repeat (first | with_reducible (first | refine cS ?_ | refine cR ?_ | refine cN ?_ | refine cK ?_ | refine cB ?_ | refine cI ?_) | refine cE rfl ?_ | refine rq (qt_pev tok rfl) ?_ | refine rg rfl rfl (qt_pev tok rfl) ?_ | refine rq (ql tok rfl) ?_ | refine rg rfl rfl (ql tok rfl) ?_ | (refine runL_op0 (sst tok rfl rfl rfl rfl rfl) ?_; rintro _ _ _ ⟨rfl, rfl, rfl⟩) | ((first | refine ro (st_box rfl) ?_ | refine ro (st_alloc tok rfl) ?_ | refine ro (st_buildSlice tok rfl rfl rfl rfl rfl rfl rfl) ?_); rintro _ _ _ ⟨_, rfl, rfl, rfl⟩))
      refine run_cond rfl (fun h5 => ?_) (fun h5 => ?_)
      · have hik : i < x.2 := by simpa using h5
        rw [show x.2 - i = (x.2 - (i + 1)) + 1 by omega, iter] at hit
        repeat (first | with_reducible (first | refine cS ?_ | refine cR ?_ | refine cN ?_ | refine cK ?_ | refine cB ?_ | refine cI ?_) | refine cE rfl ?_ | refine rq (qt_pev tok rfl) ?_ | refine rg rfl rfl (qt_pev tok rfl) ?_ | refine rq (ql tok rfl) ?_ | refine rg rfl rfl (ql tok rfl) ?_ | (refine runL_op0 (sst tok rfl rfl rfl rfl rfl) ?_; rintro _ _ _ ⟨rfl, rfl, rfl⟩) | ((first | refine ro (st_box rfl) ?_ | refine ro (st_alloc tok rfl) ?_ | refine ro (st_buildSlice tok rfl rfl rfl rfl rfl rfl rfl) ?_); rintro _ _ _ ⟨_, rfl, rfl, rfl⟩))
        refine runL_as 31 (.int .i64 ((17 - k : Nat) : Int)) rfl (by rw [wrap64_succ (by omega), show 17 - (k + 1) + 1 = 17 - k by omega]) ?_
        repeat (first | with_reducible (first | refine cS ?_ | refine cR ?_ | refine cN ?_ | refine cK ?_ | refine cB ?_ | refine cI ?_) | refine cE rfl ?_ | refine rq (qt_pev tok rfl) ?_ | refine rg rfl rfl (qt_pev tok rfl) ?_ | refine rq (ql tok rfl) ?_ | refine rg rfl rfl (ql tok rfl) ?_ | (refine runL_op0 (sst tok rfl rfl rfl rfl rfl) ?_; rintro _ _ _ ⟨rfl, rfl, rfl⟩) | ((first | refine ro (st_box rfl) ?_ | refine ro (st_alloc tok rfl) ?_ | refine ro (st_buildSlice tok rfl rfl rfl rfl rfl rfl rfl) ?_); rintro _ _ _ ⟨_, rfl, rfl, rfl⟩))
        refine runL_callE rfl (ih (by omega) _ _ hy) rfl rfl rfl ?_ ?_
        rotate_left
        · rintro ch _ _ ⟨rfl, rfl, hv⟩
          cases hg : walkR s k y with
          | ok z => rw [hg] at hv; cases hv
          | error e =>
            rw [hg] at hv hit
            simp only [Ending.panicked.injEq] at hv
            subst hv
            exact runX_pan hC (fun _ h => h) ⟨rfl, rfl, by rw [← hit]⟩
        rintro v _ _ ⟨rfl, rfl, hv⟩
        cases hg : walkR s k y with
        | error e => rw [hg] at hv; cases hv
        | ok z =>
          rw [hg] at hv hit
          simp only [Ending.returned.injEq] at hv
          subst hv
          have hzz := walkR_len s k y z hy hg
          repeat (first | with_reducible (first | refine cS ?_ | refine cR ?_ | refine cN ?_ | refine cK ?_ | refine cB ?_ | refine cI ?_) | refine cE rfl ?_ | refine rq (qt_pev tok rfl) ?_ | refine rg rfl rfl (qt_pev tok rfl) ?_ | refine rq (ql tok rfl) ?_ | refine rg rfl rfl (ql tok rfl) ?_ | (refine runL_op0 (sst tok rfl rfl rfl rfl rfl) ?_; rintro _ _ _ ⟨rfl, rfl, rfl⟩) | ((first | refine ro (st_box rfl) ?_ | refine ro (st_alloc tok rfl) ?_ | refine ro (st_buildSlice tok rfl rfl rfl rfl rfl rfl rfl) ?_); rintro _ _ _ ⟨_, rfl, rfl, rfl⟩))
          exact run_sub' (hnext _ _ _ ⟨hik, z, hzz, hit, rfl, rfl, rfl⟩) ⟨rfl, rfl, rfl, rfl, rfl, rfl, lk_succ rfl (by omega), trivial⟩
      · have hik : i = x.2 := by simp at h5; omega
        subst hik
        rw [Nat.sub_self, iter] at hit
        repeat (first | with_reducible (first | refine cS ?_ | refine cR ?_ | refine cN ?_ | refine cK ?_ | refine cB ?_ | refine cI ?_) | refine cE rfl ?_ | refine rq (qt_pev tok rfl) ?_ | refine rg rfl rfl (qt_pev tok rfl) ?_ | refine rq (ql tok rfl) ?_ | refine rg rfl rfl (ql tok rfl) ?_ | (refine runL_op0 (sst tok rfl rfl rfl rfl rfl) ?_; rintro _ _ _ ⟨rfl, rfl, rfl⟩) | ((first | refine ro (st_box rfl) ?_ | refine ro (st_alloc tok rfl) ?_ | refine ro (st_buildSlice tok rfl rfl rfl rfl rfl rfl rfl) ?_); rintro _ _ _ ⟨_, rfl, rfl, rfl⟩) | (refine runL_op (st_callV rfl rfl (fun _ => tell_ok _ _ _ _ _)) rfl rfl rfl ?_; rintro _ _ _ ⟨rfl, rfl, rfl⟩))
        refine run_retX hro ?_
        exact runX_ret hC (rs := [.tmp 8]) rfl (resT rfl resN) (fun _ h => h) ⟨rfl, rfl, by rw [← hit]; rfl⟩
/-- whether a text is a term, or why not -/
def checkR (s : ByteArray) : Int := if (readR (walkR s 16 0)).2 = 0 ∧ (readR (walkR s 16 0)).1 ≠ (s.size : Int) then 7 else (readR (walkR s 16 0)).2
theorem check_ok (M : Mem) (L : HL) (s : ByteArray) (hs : s.size < 4611686018427387904) : TrQ Try.prog 26 [.string s] M L (.int .i64 (checkR s)) := by
  refine Tr.intro 19 Try.func26 rfl rfl Try.call26 rfl ?_
  intro C hC hro
  repeat (first | with_reducible (first | refine cS ?_ | refine cR ?_ | refine cN ?_ | refine cK ?_ | refine cB ?_ | refine cI ?_) | refine cE rfl ?_ | refine rq (qt_pev tok rfl) ?_ | refine rg rfl rfl (qt_pev tok rfl) ?_ | refine rq (ql tok rfl) ?_ | refine rg rfl rfl (ql tok rfl) ?_ | (refine runL_op0 (sst tok rfl rfl rfl rfl rfl) ?_; rintro _ _ _ ⟨rfl, rfl, rfl⟩) | ((first | refine ro (st_box rfl) ?_ | refine ro (st_alloc tok rfl) ?_ | refine ro (st_buildSlice tok rfl rfl rfl rfl rfl rfl rfl) ?_); rintro _ _ _ ⟨_, rfl, rfl, rfl⟩) | refine runL_q (qt_callF rfl (fun _ => read_ok _ _ s (walkR s 16 0) (fun L => walk_ok _ s hs 16 (by omega) L 0 (Nat.zero_le _)))) rfl rfl rfl ?_)
  refine run_cond rfl (fun h => ?_) (fun h => ?_)
  · have h1 : (readR (walkR s 16 0)).2 = 0 ∧ (readR (walkR s 16 0)).1 ≠ (s.size : Int) := by simpa using h
    repeat (first | with_reducible (first | refine cS ?_ | refine cR ?_ | refine cN ?_ | refine cK ?_ | refine cB ?_ | refine cI ?_) | refine cE rfl ?_ | refine rq (qt_pev tok rfl) ?_ | refine rg rfl rfl (qt_pev tok rfl) ?_ | refine rq (ql tok rfl) ?_ | refine rg rfl rfl (ql tok rfl) ?_ | (refine runL_op0 (sst tok rfl rfl rfl rfl rfl) ?_; rintro _ _ _ ⟨rfl, rfl, rfl⟩) | ((first | refine ro (st_box rfl) ?_ | refine ro (st_alloc tok rfl) ?_ | refine ro (st_buildSlice tok rfl rfl rfl rfl rfl rfl rfl) ?_); rintro _ _ _ ⟨_, rfl, rfl, rfl⟩))
    exact run_ret hC (rs := [.tmp 2]) rfl (resT rfl resN) (fun _ h => h) ⟨by rw [checkR, if_pos h1]; rfl, rfl, rfl⟩
  · have h1 : ¬ ((readR (walkR s 16 0)).2 = 0 ∧ (readR (walkR s 16 0)).1 ≠ (s.size : Int)) := by simpa using h
    repeat (first | with_reducible (first | refine cS ?_ | refine cR ?_ | refine cN ?_ | refine cK ?_ | refine cB ?_ | refine cI ?_) | refine cE rfl ?_ | refine rq (qt_pev tok rfl) ?_ | refine rg rfl rfl (qt_pev tok rfl) ?_ | refine rq (ql tok rfl) ?_ | refine rg rfl rfl (ql tok rfl) ?_ | (refine runL_op0 (sst tok rfl rfl rfl rfl rfl) ?_; rintro _ _ _ ⟨rfl, rfl, rfl⟩) | ((first | refine ro (st_box rfl) ?_ | refine ro (st_alloc tok rfl) ?_ | refine ro (st_buildSlice tok rfl rfl rfl rfl rfl rfl rfl) ?_); rintro _ _ _ ⟨_, rfl, rfl, rfl⟩))
    exact run_ret hC (rs := [.tmp 2]) rfl (resT rfl resN) (fun _ h => h) ⟨by rw [checkR, if_neg h1]; rfl, rfl, rfl⟩
end Go.Proofs.Ytbpgiodfccijmaa
namespace Go.Proofs.Ytbpgiodfccijmaa
open Go.Chi

theorem take_snoc {α : Type} {l : List α} {j : Nat} {x : α} (h : l[j]? = some x) : l.take (j + 1) = l.take j ++ [x] := by rw [List.take_add_one, h]; rfl
theorem any_snoc {α : Type} {xs : List α} {j : Nat} {x : α} (p : α → Bool) (hx : xs[j]? = some x) (hp : (xs.take j).any p = false) : (xs.take (j + 1)).any p = p x := by rw [take_snoc hx, List.any_append, hp]; simp
theorem any_true {α : Type} {xs : List α} {j : Nat} {x : α} (p : α → Bool) (hx : xs[j]? = some x) (hp : p x = true) : xs.any p = true := List.any_eq_true.2 ⟨x, List.mem_of_getElem? hx, hp⟩
theorem SMb.at_ {M : Mem} {a : Option Addr} {len : Nat} {xs : List Mb} (h : SlM M 2 a len (xs.map mbC)) {j : Nat} (hj : j < len) : ∃ b off m, a = some ⟨b, off, none⟩ ∧ xs[j]? = some m ∧ Cells M [] b (off + j * 2) (mbC m) := by
  obtain ⟨b, off, c, ha, hc, _, hcells⟩ := h.at_ hj
  obtain ⟨m, hm, rfl⟩ : ∃ m, xs[j]? = some m ∧ mbC m = c := by simpa using hc
  exact ⟨b, off, m, ha, hm, hcells⟩
def stC (x : ByteArray) : List Value := [.string x]
theorem SStr.at_ {M : Mem} {a : Option Addr} {len : Nat} {xs : List ByteArray} (h : SlM M 1 a len (xs.map stC)) {j : Nat} (hj : j < len) : ∃ b off m, a = some ⟨b, off, none⟩ ∧ xs[j]? = some m ∧ Cells M [] b (off + j * 1) (stC m) := by
  obtain ⟨b, off, c, ha, hc, _, hcells⟩ := h.at_ hj
  obtain ⟨m, hm, rfl⟩ : ∃ m, xs[j]? = some m ∧ stC m = c := by simpa using hc
  exact ⟨b, off, m, ha, hm, hcells⟩
def MbOk (M : Mem) (s : SMb) : Prop := s.Ok M ∧ s.len < 1000000
def StOk (M : Mem) (s : SStr) : Prop := s.Ok M ∧ s.len < 1000000
theorem MbOk.le {M M' : Mem} {s : SMb} (hm : M.le M') (h : MbOk M s) : MbOk M' s := ⟨h.1.le hm, h.2⟩
theorem StOk.le {M M' : Mem} {s : SStr} (hm : M.le M') (h : StOk M s) : StOk M' s := ⟨h.1.le hm, h.2⟩
theorem MbOk.nil (M : Mem) : MbOk M ⟨none, 0, 0, []⟩ := ⟨SlM.nil _ _ _, by decide⟩
theorem StOk.nil (M : Mem) : StOk M ⟨none, 0, 0, []⟩ := ⟨SlM.nil _ _ _, by decide⟩
theorem MbOk.len {M : Mem} {s : SMb} (h : MbOk M s) : s.xs.length = s.len := by have := h.1.1; simpa using this
theorem StOk.len {M : Mem} {s : SStr} (h : StOk M s) : s.xs.length = s.len := by have := h.1.1; simpa using this

/-! ### names that may be -/
def orgW (n : Int) : Bool := decide (n ≥ 0) && decide (n < 8)
theorem worg_ok (M : Mem) (L : HL) (n : Int) : TrQ Try.prog 39 [.int .i64 n] M L (.bool (orgW n)) := by
  refine Tr.intro 9 Try.func39 rfl rfl Try.call39 rfl ?_
  intro C hC hro
  repeat (first | with_reducible (first | refine cS ?_ | refine cR ?_ | refine cN ?_ | refine cK ?_ | refine cB ?_ | refine cI ?_) | refine cE rfl ?_ | refine rq (qt_pev tok rfl) ?_ | refine rg rfl rfl (qt_pev tok rfl) ?_ | refine rq (ql tok rfl) ?_ | refine rg rfl rfl (ql tok rfl) ?_ | (refine runL_op0 (sst tok rfl rfl rfl rfl rfl) ?_; rintro _ _ _ ⟨rfl, rfl, rfl⟩) | ((first | refine ro (st_box rfl) ?_ | refine ro (st_alloc tok rfl) ?_ | refine ro (st_buildSlice tok rfl rfl rfl rfl rfl rfl rfl) ?_); rintro _ _ _ ⟨_, rfl, rfl, rfl⟩))
  exact run_ret hC (rs := [.tmp 2]) rfl (resT rfl resN) (fun _ h => h) ⟨rfl, rfl, rfl⟩
def mayTx (t : Tx) : Bool := (((orgW t.coord && decide (t.epoch ≥ 1)) && decide (t.epoch ≤ 255)) && decide (t.seq ≥ 1)) && decide (t.seq ≤ 65535)
theorem mayTx_ok (M : Mem) (L : HL) (t : Tx) : TrQ Try.prog 25 [.agg ⟨txC t⟩] M L (.bool (mayTx t)) := by
  refine Tr.intro 26 Try.func25 rfl rfl Try.call25 rfl ?_
  intro C hC hro
  repeat (first | with_reducible (first | refine cS ?_ | refine cR ?_ | refine cN ?_ | refine cK ?_ | refine cB ?_ | refine cI ?_) | refine cE rfl ?_ | refine rq (qt_pev tok rfl) ?_ | refine rg rfl rfl (qt_pev tok rfl) ?_ | refine rq (ql tok rfl) ?_ | refine rg rfl rfl (ql tok rfl) ?_ | (refine runL_op0 (sst tok rfl rfl rfl rfl rfl) ?_; rintro _ _ _ ⟨rfl, rfl, rfl⟩) | ((first | refine ro (st_box rfl) ?_ | refine ro (st_alloc tok rfl) ?_ | refine ro (st_buildSlice tok rfl rfl rfl rfl rfl rfl rfl) ?_); rintro _ _ _ ⟨_, rfl, rfl, rfl⟩) | refine runL_q (qt_callF rfl (fun _ => worg_ok _ _ _)) rfl rfl rfl ?_)
  exact run_ret hC (rs := [.tmp 2]) rfl (resT rfl resN) (fun _ h => h.drop) ⟨rfl, rfl, rfl⟩
/-! ### members that may be -/
def badM (t : Tx) (last : Int) (x : Mb) : Bool := (((!orgW x.org) || (x.org == t.coord)) || decide (x.org ≤ last)) || (checkR x.digest != 0)
def memGo (t : Tx) : Int → List Mb → Bool
  | _, [] => true
  | last, x :: l => if badM t last x = true then false else memGo t x.org l
def mayMb (t : Tx) (l : List Mb) : Bool := memGo t (-1) l && (decide ((l.length : Int) ≥ 1) && decide ((l.length : Int) ≤ 6))
end Go.Proofs.Ytbpgiodfccijmaa
namespace Go.Chi
section
variable {κ : Type} [DecidableEq κ]
/-- a key that is there, or is made there -/
def kvTouch (es : KV κ) (a : κ) (z : Value) (clock : Nat) : KV κ := match es with
  | [] => [(a, z, clock)]
  | x :: es => if a = x.1 then x :: es else x :: kvTouch es a z clock
def kvBorn (es : KV κ) (a : κ) (clock : Nat) : Nat := match es with
  | [] => clock
  | x :: es => if a = x.1 then x.2.2 else kvBorn es a clock
structure KvOk (es : KV κ) (clock : Nat) : Prop where
  nodup : (es.map (·.2.2)).Nodup
  lt : ∀ x ∈ es, x.2.2 < clock
omit [DecidableEq κ] in
theorem KvOk.nil (clock : Nat) : KvOk ([] : KV κ) clock := ⟨by simp, fun x h => by cases h⟩
theorem kvGet_set (a : κ) (v : Value) (clock : Nat) (b : κ) : ∀ es : KV κ, kvGet (kvSet es a v clock) b = if b = a then some v else kvGet es b
  | [] => by simp only [kvSet, kvGet]
  | x :: es => by
    simp only [kvSet]
    split
    · rename_i e
      subst e
      simp only [kvGet]
      split
      · rfl
      · rfl
    · rename_i e
      simp only [kvGet, kvGet_set a v clock b es]
      by_cases e2 : b = x.1
      · rw [if_pos e2, if_pos e2, if_neg (fun h => e (by rw [← h]; exact e2))]
      · rw [if_neg e2, if_neg e2]
theorem kvGet_touch (a : κ) (z : Value) (clock : Nat) : ∀ es : KV κ, (kvGet (kvTouch es a z clock) a).getD z = (kvGet es a).getD z
  | [] => by simp [kvTouch, kvGet]
  | x :: es => by
    simp only [kvTouch]
    split
    · rfl
    · rename_i e
      simp only [kvGet, if_neg e]
      exact kvGet_touch a z clock es
theorem kvBorn_mem (a : κ) (clock : Nat) : ∀ es : KV κ, kvBorn es a clock = clock ∨ kvBorn es a clock ∈ es.map (·.2.2)
  | [] => .inl rfl
  | x :: es => by
    simp only [kvBorn]
    split
    · exact .inr (by simp)
    · rcases kvBorn_mem a clock es with h | h
      · exact .inl h
      · exact .inr (by rw [List.map_cons]; exact List.mem_cons_of_mem _ h)
theorem touch_set {enc : κ → Value} (a : κ) (z v : Value) (clock : Nat) : ∀ es : KV κ, KvOk es clock →
    ∃ i, (ents enc (kvTouch es a z clock)).findIdx? (fun e => (e.born : Int) == ((kvBorn es a clock : Nat) : Int)) = some i ∧ (ents enc (kvTouch es a z clock)).modify i (fun e => { e with val := v }) = ents enc (kvSet es a v clock)
  | [], _ => ⟨0, by simp [kvTouch, kvBorn, ents, List.findIdx?_cons], by simp [kvTouch, kvSet, ents]⟩
  | x :: es, h => by
    by_cases e : a = x.1
    · refine ⟨0, ?_, ?_⟩
      · simp only [kvTouch, kvBorn, if_pos e, ents, List.map_cons]
        simp [List.findIdx?_cons]
      · simp only [kvTouch, kvSet, if_pos e, ents, List.map_cons]
        simp
    · obtain ⟨i, h1, h2⟩ := touch_set (enc := enc) a z v clock es ⟨(List.nodup_cons.1 (by rw [← List.map_cons]; exact h.nodup)).2, fun y hy => h.lt y (List.mem_cons_of_mem _ hy)⟩
      have hne : x.2.2 ≠ kvBorn es a clock := by
        rcases kvBorn_mem a clock es with hb | hb
        · have := h.lt x List.mem_cons_self; omega
        · intro he
          rw [← he] at hb
          have hnd := h.nodup
          rw [List.map_cons] at hnd
          exact (List.nodup_cons.1 hnd).1 hb
      refine ⟨i + 1, ?_, ?_⟩
      · simp only [kvTouch, kvBorn, if_neg e, ents, List.map_cons]
        rw [List.findIdx?_cons]
        have hf : (((x.2.2 : Nat) : Int) == ((kvBorn es a clock : Nat) : Int)) = false := by
          rw [beq_eq_false_iff_ne]; omega
        simp only [hf]
        simp only [ents] at h1
        rw [h1]; rfl
      · simp only [kvTouch, kvSet, if_neg e, ents, List.map_cons]
        simp only [ents] at h2
        simp [h2]
theorem kvSet_births (a : κ) (v : Value) (clock : Nat) : ∀ es : KV κ, (kvSet es a v clock).map (·.2.2) = if (kvGet es a).isSome then es.map (·.2.2) else es.map (·.2.2) ++ [clock]
  | [] => by simp [kvSet, kvGet]
  | x :: es => by
    simp only [kvSet, kvGet]
    split
    · simp
    · rw [List.map_cons, kvSet_births a v clock es]
      split <;> simp
theorem KvOk.set {es : KV κ} {clock : Nat} (h : KvOk es clock) (a : κ) (v : Value) : KvOk (kvSet es a v clock) (if (kvGet es a).isSome then clock else clock + 1) := by
  have hb := kvSet_births a v clock es
  constructor
  · rw [hb]
    split
    · exact h.nodup
    · rw [List.nodup_append]
      refine ⟨h.nodup, by simp, fun x hx y hy e => ?_⟩
      obtain ⟨z, hz, rfl⟩ := List.mem_map.1 hx
      have := h.lt z hz
      simp at hy
      omega
  · intro x hx
    have hm : x.2.2 ∈ (kvSet es a v clock).map (·.2.2) := List.mem_map_of_mem (f := fun x : κ × Value × Nat => x.2.2) hx
    rw [hb] at hm
    split at hm
    · rename_i hs
      rw [if_pos hs]
      obtain ⟨z, hz, e⟩ := List.mem_map.1 hm
      have := h.lt z hz
      omega
    · rename_i hs
      rw [if_neg hs]
      rcases List.mem_append.1 hm with hm | hm
      · obtain ⟨z, hz, e⟩ := List.mem_map.1 hm
        have := h.lt z hz
        omega
      · simp at hm; omega
theorem touch_of (a : κ) (z : Value) (clock : Nat) : ∀ es : KV κ, kvTouch es a z clock = if (kvGet es a).isSome then es else es ++ [(a, z, clock)]
  | [] => by simp [kvTouch, kvGet]
  | x :: es => by
    simp only [kvTouch, kvGet]
    split
    · simp
    · rw [touch_of a z clock es]
      split <;> simp
theorem born_of (a : κ) (clock : Nat) : ∀ (es : KV κ) (i : Nat),
    (∀ j u, fnd a es i = some (j, u) → i ≤ j ∧ ∃ x, es[j - i]? = some x ∧ x.1 = a ∧ x.2.1 = u ∧ x.2.2 = kvBorn es a clock) ∧ (fnd a es i = none → kvBorn es a clock = clock)
  | [], i => ⟨fun j u h => by simp [fnd] at h, fun _ => rfl⟩
  | x :: es, i => by
    obtain ⟨ih1, ih2⟩ := born_of a clock es (i + 1)
    constructor
    · intro j u h
      simp only [fnd] at h
      split at h
      · rename_i e
        cases h
        exact ⟨Nat.le_refl _, x, by simp, e.symm, rfl, by simp [kvBorn, e]⟩
      · rename_i e
        obtain ⟨h1, y, h2, h3⟩ := ih1 j u h
        refine ⟨by omega, y, ?_, by simpa only [kvBorn, if_neg e] using h3⟩
        rw [show j - i = (j - (i + 1)) + 1 from by omega]; simpa using h2
    · intro h
      simp only [fnd] at h
      split at h
      · cases h
      · rename_i e
        simp only [kvBorn, if_neg e, ih2 h]
variable {P : Program} {kt : TypeId} {enc : κ → Value} {T : TT} {ro : Option Nat} {σ : Env} {δ : Den} {cur : Path} {M : Mem} {L : HL} {d : Option Nat} {op : Op} {ty : TypeId} {pos : String} {aft : Array Edge} {g : Option (Nat × Bool)} {v : Value}
theorem st_mapEntry (hT : TOk P T) (hk : KeyLaw P kt enc) {t : TypeId} {x y : Operand} {b : Nat} {et : TypeId} {kv z : Value} {a : κ} {es : KV κ} {clock : Nat} {L' : HL}
    (hu : und T t = some (.map kt et)) (hx : ev σ δ cur x = some (.map (some b))) (hy : ev σ δ cur y = some kv) (he : kv = enc a) (hz : zeroT T et = some z)
    (hL : Upd L b (.map ⟨ents enc es⟩ clock) (.map ⟨ents enc (kvTouch es a z clock)⟩ (if (kvGet es a).isSome then clock else clock + 1)) L') :
    St P ro ⟨d, .mapEntry t x y, ty, pos, aft, g⟩ σ δ cur M L (fun v' M' L'' => v' = .tuple ⟨[(kvGet es a).getD z, .int .i64 ((kvBorn es a clock : Nat) : Int)]⟩ ∧ M = M' ∧ L'' = L') := fun act w hs hcur hp => by
  have hb' := hp.own _ hL.mem
  subst he
  refine opWp_value (v := .tuple ⟨[(kvGet es a).getD z, .int .i64 ((kvBorn es a clock : Nat) : Int)]⟩) (w' := w.putObj b (.map ⟨ents enc (kvTouch es a z clock)⟩ (if (kvGet es a).isSome then clock else clock + 1))) ?_ ⟨M, L', hp.putObj hL, rfl, rfl, rfl⟩
  rw [semAt_of (by intro c e; cases e)]
  have hget : (getObj b).run P w = .ok (.map ⟨ents enc es⟩ clock) w := by simp [getObj, Sem.run, hb']
  have hset : ∀ o, (setObj b o).run P w = .ok () (w.putObj b o) := fun o => by simp [setObj, Sem.run, hb', World.putObj]
  have hzv : (zeroValue et).run P w = .ok z w := run_zeroT hT hz w
  simp only [execOp, Instr.mapEntry, ev_sound hs hcur hx, ev_sound hs hcur hy, Sem.run_bind, run_und hT hu, Result.andThen_ok, hget, hk.chk, findKey_ok hk]
  have hg := fnd_get a es 0
  obtain ⟨h1, h2⟩ := born_of a clock es 0
  cases h : fnd a es 0 with
  | none =>
    rw [h] at hg
    simp only [hzv, hset, Result.andThen_ok, Sem.run_pure, Sem.run_bind]
    rw [touch_of, ← hg, h2 h]
    simp [ents, goInt]
  | some r =>
    obtain ⟨j, u⟩ := r
    obtain ⟨_, y, h3, h4, h5, h6⟩ := h1 j u h
    simp only [Nat.sub_zero] at h3
    rw [h] at hg
    have hkey : (((⟨ents enc es⟩ : Array MapEntry)[j]?).map (·.key)).getD (enc a) = enc a := by simp [ents, h3, h4]
    have hborn : (((⟨ents enc es⟩ : Array MapEntry)[j]?).map (·.born)).getD 0 = kvBorn es a clock := by simp [ents, h3, h6]
    have hmod : (⟨ents enc es⟩ : Array MapEntry).modify j (fun e => { e with key := enc a }) = ⟨ents enc es⟩ := by
      apply Array.ext'
      simp only [Array.toList_modify, ents]
      apply List.ext_getElem?
      intro n
      simp only [List.getElem?_modify, List.getElem?_map]
      cases hn : es[n]? with
      | none => simp
      | some y' =>
        simp only [Option.map_some]
        by_cases e : j = n
        · subst e; rw [h3] at hn; cases hn; simp [h4]
        · simp [e]
    simp only [hkey, hmod, Sem.run_bind, Instr.keyThatStays, hk.bits, if_true, Sem.run_pure, Result.andThen_ok, hset]
    rw [touch_of, ← hg]
    simp [goInt, ents, h3, h6]
theorem st_entryStore {t : TypeId} {x s q : Operand} {b c1 : Nat} {z : Value} {a : κ} {es : KV κ} {clock : Nat} {L' : HL} (hok : KvOk es clock)
    (hx : ev σ δ cur x = some (.map (some b))) (hs' : ev σ δ cur s = some (.int .i64 ((kvBorn es a clock : Nat) : Int))) (hq : ev σ δ cur q = some v)
    (hL : Upd L b (.map ⟨ents enc (kvTouch es a z clock)⟩ c1) (.map ⟨ents enc (kvSet es a v clock)⟩ c1) L') :
    St P ro ⟨d, .entryStore t x s q, ty, pos, aft, g⟩ σ δ cur M L (fun v' M' L'' => v' = undef ∧ M = M' ∧ L'' = L') := fun act w hs hcur hp => by
  have hb' := hp.own _ hL.mem
  refine opWp_skip (w' := w.putObj b (.map ⟨ents enc (kvSet es a v clock)⟩ c1)) ?_ ⟨M, L', hp.putObj hL, rfl, rfl, rfl⟩
  rw [semAt_of (by intro c e; cases e)]
  have hget : (getObj b).run P w = .ok (.map ⟨ents enc (kvTouch es a z clock)⟩ c1) w := by simp [getObj, Sem.run, hb']
  have hset : ∀ o, (setObj b o).run P w = .ok () (w.putObj b o) := fun o => by simp [setObj, Sem.run, hb', World.putObj]
  obtain ⟨i, h1, h2⟩ := touch_set (enc := enc) a z v clock es hok
  have h1' : (⟨ents enc (kvTouch es a z clock)⟩ : Array MapEntry).findIdx? (fun e => (e.born : Int) == ((kvBorn es a clock : Nat) : Int)) = some i := by
    rw [← h1]; exact List.findIdx?_toArray _ _
  have h2' : (⟨ents enc (kvTouch es a z clock)⟩ : Array MapEntry).modify i (fun e => { e with val := v }) = ⟨ents enc (kvSet es a v clock)⟩ := by
    apply Array.ext'
    simp only [Array.toList_modify]
    exact h2
  simp only [execOp, Instr.entryStore, ev_sound hs hcur hx, ev_sound hs hcur hs', ev_sound hs hcur hq, Sem.run_bind, Result.andThen_ok, hget, asInt, asIntOf, Sem.run_pure, h1', h2', hset]
end
end Go.Chi
namespace Go.Chi
/-- bytes, as a text -/
def bytesI (ns : List Int) : ByteArray := ns.foldl (fun r n => r.push (UInt8.ofNat n.toNat)) ByteArray.empty
section
variable {P : Program} {T : TT} {ro : Option Nat} {σ : Env} {δ : Den} {cur : Path} {M : Mem} {L : HL} {d : Option Nat} {ty : TypeId} {pos : String} {aft : Array Edge} {g : Option (Nat × Bool)} {v : Value}
theorem _root_.Go.Chi.Qt.as {o : Oper} {v' : Value} (h : Qt P ro o σ δ cur M L v) (e : v = v') : Qt P ro o σ δ cur M L v' := e ▸ h
theorem qt_bytesStr (hT : TOk P T) {s t e : TypeId} {x : Operand} {b n c : Nat} (ns : List Int) (hs' : und T s = some (.slice e)) (he : und T e = some (.int .u8)) (hu : und T t = some .string) (hx : ev σ δ cur x = some (.slice (some ⟨b, 0, none⟩) n c)) (hc : Cells M L b 0 (ns.map (Value.int .u8))) (hl : ns.length = n) :
    Qt P ro ⟨d, .convert s t x, ty, pos, aft, g⟩ σ δ cur M L (.string (bytesI ns)) :=
  qt_of_run (semAt_of (by intro c e; cases e)) fun a w hs hcur hp => by
    have h1 := run_loadCells (P := P) hp (ns.map (Value.int .u8)) [] (by simpa using hc)
    have h2 : (loadCells ⟨b, 0, none⟩ n).run P w = .ok (ns.map (Value.int .u8)).toArray w := by
      simp only [List.length_nil, List.nil_append, List.length_map, hl] at h1
      exact h1
    have h3 := run_bytesToString w ⟨b, 0, none⟩ n c ns h2
    have h4 := run_convert_bytes_string (P := P) w s t e (some ⟨b, 0, none⟩) n c (und_ok hT hs') (und_ok hT he) (und_ok hT hu)
    simp only [execOp, ev_sound hs hcur hx, Sem.run_bind, h4, h3, Result.andThen_ok, Sem.run_pure]
    rfl
theorem qt_concat {t u : TypeId} {x y : Operand} {a b : ByteArray} (hx : ev σ δ cur x = some (.string a)) (hy : ev σ δ cur y = some (.string b)) (hsz : a.size + b.size < 4611686018427387904) :
    Qt P ro ⟨d, .binOp .add t x y u, ty, pos, aft, g⟩ σ δ cur M L (.string (a ++ b)) :=
  qt_of_run (semAt_of (by intro c e; cases e)) fun act w hs hcur hp => by
    have hn : ¬ ((a.size + b.size : Nat) : Int) > IntKind.i64.max := by
      have : IntKind.i64.max = 9223372036854775807 := by decide
      omega
    simp only [execOp, eqGuard, binOp, ev_sound hs hcur hx, ev_sound hs hcur hy, Op.stringOp, hn, if_false]
    simp
end
end Go.Chi
