import Derived.Test.YtemiflllckincaaLgJ
import Derived.IntWalk
namespace Go.Chi

section
variable {P : Program} {T : TT} {ro : Option Nat} {σ : Env} {δ : Den} {cur : Path} {M : Mem} {L : HL} {d : Option Nat} {op : Op} {ty : TypeId} {pos : String} {aft : Array Edge} {g : Option (Nat × Bool)} {v : Value}

theorem Cells.ofM {b off : Nat} {vs : List Value} (h : Cells M [] b off vs) : Cells M L b off vs :=
  h.mono fun o ho => by
    rcases ho with ho | ho
    · cases ho
    · exact .inr ho
theorem Cells.le {M M' : Mem} {b off : Nat} {vs : List Value} (hm : M.le M') (h : Cells M [] b off vs) : Cells M' [] b off vs :=
  h.mono fun o ho => by
    rcases ho with ho | ho
    · cases ho
    · exact .inr (hm.blk _ _ ho)

/-- a slice whose elements' cells are ls, for good -/
def SlM (M : Mem) (size : Nat) (a : Option Addr) (len : Nat) (ls : List (List Value)) : Prop :=
  ls.length = len ∧ (∀ l ∈ ls, l.length = size) ∧ (ls = [] ∨ ∃ b off, a = some ⟨b, off, none⟩ ∧ ∀ (i : Nat) c, ls[i]? = some c → Cells M [] b (off + i * size) c)

theorem SlM.le {M M' : Mem} {size : Nat} {a : Option Addr} {len : Nat} {ls : List (List Value)} (hm : M.le M') (h : SlM M size a len ls) : SlM M' size a len ls := by
  obtain ⟨h1, h2, h3⟩ := h
  refine ⟨h1, h2, h3.imp id ?_⟩
  rintro ⟨b, off, e, h⟩
  exact ⟨b, off, e, fun i c hc => (h i c hc).le hm⟩

theorem SlM.nil (M : Mem) (size : Nat) (a : Option Addr) : SlM M size a 0 [] := ⟨rfl, (fun _ h => by cases h), .inl rfl⟩

/-- element k of such a slice -/
theorem SlM.at_ {size : Nat} {a : Option Addr} {len : Nat} {ls : List (List Value)} (h : SlM M size a len ls) {k : Nat} (hk : k < len) : ∃ b off c, a = some ⟨b, off, none⟩ ∧ ls[k]? = some c ∧ c.length = size ∧ Cells M [] b (off + k * size) c := by
  obtain ⟨h1, h2, h3⟩ := h
  have hlt : k < ls.length := by omega
  rcases h3 with h3 | ⟨b, off, e, h⟩
  · subst h3; simp at hlt
  · refine ⟨b, off, ls[k], e, List.getElem?_eq_getElem hlt, h2 _ (List.getElem_mem hlt), h k _ (List.getElem?_eq_getElem hlt)⟩

/-- an element's address -/
theorem qt_indexN (hT : TOk P T) {t : TypeId} {x y : Operand} {b off len cap : Nat} {k : IntKind} {n e s : Nat}
    (hx : ev σ δ cur x = some (.slice (some ⟨b, off, none⟩) len cap)) (hy : ev σ δ cur y = some (.int k (n : Int))) (hu : und T t = some (.slice e)) (hi : sizeT T e = some s) (hb : Hy σ δ cur → n < len) :
    Qt P ro ⟨d, .indexAddr t x y, ty, pos, aft, g⟩ σ δ cur M L (.pointer (some ⟨b, off + n * s, none⟩)) := by
  have := qt_index (ro := ro) (d := d) (ty := ty) (pos := pos) (aft := aft) (g := g) (M := M) (L := L) hT hx hy hu hi (fun h => by have := hb h; omega)
  simpa using this
end

/-! ### numbers -/
theorem wrap64_nat {n : Nat} (h : n < 9223372036854775808) : IntKind.i64.wrap (n : Int) = n := IntWalk.i64_in _ (by omega)
theorem wrap64_succ {n : Nat} (h : n < 9223372036854775807) : IntKind.i64.wrap ((n : Int) + 1) = ((n + 1 : Nat) : Int) := by
  have := wrap64_nat (n := n + 1) (by omega)
  simpa using this


theorem lk_succ {σ : Env} {t j : Nat} (h : lks σ t = some (.int .i64 (IntKind.i64.wrap ((j : Int) + 1)))) (hj : j < 9223372036854775807) : lks σ t = some (.int .i64 ((j + 1 : Nat) : Int)) := by rw [h, wrap64_succ hj]
theorem run_sub' {P : Program} {C : Cx} {n : Nat} {k : List Item} {ds : List Deferred} {σ σ' : Env} {M : Mem} {L : HL} (h : Run P C n k ds σ' M L) (hs : subE σ σ') : Run P C n k ds σ M L := run_sub σ' hs h

/-! ### blocks that are given up for good -/
theorem run_retE {P : Program} {f : FuncId} {fn : Func} {K : Value → Mem → HL → Prop} {C : Cx} {n : Nat} {k : List Item} {σ : Env} {M : Mem} {L : HL} (hC : FnCx P f fn K C) {rs : List ResultVar} {vs : List Value} (hrs : fn.results.toList = rs) (hr : ResOk P M L σ rs vs)
    (hk : ∀ w, Hp M L w → ∃ M' L', Hp M' L' w ∧ K (resVal vs) M' L') : Run P C n (.code .ret :: k) [] σ M L := fun a w _ h2 h3 h4 => by
  obtain ⟨M', L', hp, hK⟩ := hk w h4
  refine J.step (stepR_ret hC.ro) (J.done ?_)
  rw [hC.phi]
  refine ⟨resVal vs, M', L', hp, hK, hC.b, rfl, h2, hC.kind, fn, ?_, ?_⟩
  · show P.funcs[C.b.fn]? = some fn; rw [hC.b]; exact hC.fnn
  · exact results_run h3 h4 (by rw [hrs]; exact hr)
theorem run_ret1E {P : Program} {f : FuncId} {fn : Func} {K : Value → Mem → HL → Prop} {C : Cx} {n : Nat} {k : List Item} {σ : Env} {M : Mem} {L L1 : HL} {D : Nat} (hC : FnCx P f fn K C) (hu : Upd L D (.deferred (some [])) (.deferred none) L1)
    {rs : List ResultVar} {vs : List Value} (hrs : fn.results.toList = rs) (hr : ResOk P M L1 σ rs vs)
    (hk : ∀ w, Hp M L1 w → ∃ M' L', Hp M' L' w ∧ K (resVal vs) M' L') : Run P C n (.code .ret :: k) [⟨.collected D, #[]⟩] σ M L := fun a w _ h2 h3 h4 => by
  refine J.step (stepR_ret hC.ro) ?_
  refine ret_mark (D := D) (ds := []) rfl h2 h4 hu fun w' hw' => J.done ?_
  obtain ⟨M', L', hp, hK⟩ := hk w' hw'
  rw [hC.phi]
  refine ⟨resVal vs, M', L', hp, hK, hC.b, rfl, rfl, hC.kind, fn, ?_, ?_⟩
  · show P.funcs[C.b.fn]? = some fn; rw [hC.b]; exact hC.fnn
  · exact results_run h3 hw' (by rw [hrs]; exact hr)
theorem run_memE {P : Program} {C : Cx} {n : Nat} {k : List Item} {ds : List Deferred} {σ : Env} {M : Mem} {L : HL} (Q : Mem → HL → Prop) (hm : ∀ w, Hp M L w → ∃ M' L', Hp M' L' w ∧ Q M' L') (h : ∀ M' L', Q M' L' → Run P C n k ds σ M' L') : Run P C n k ds σ M L :=
  fun a w h1 h2 h3 h4 => by
    obtain ⟨M', L', hp, hq⟩ := hm w h4
    exact h M' L' hq a w h1 h2 h3 hp
theorem runL_memE {P : Program} {C : Cx} {n : Nat} {k : List Item} {ds : List Deferred} {σ : Env} {δ : Den} {ops : Array Oper} {l : List Oper} {M : Mem} {L : HL} (Q : Mem → HL → Prop) (hm : ∀ w, Hp M L w → ∃ M' L', Hp M' L' w ∧ Q M' L') (h : ∀ M' L', Q M' L' → RunL P C n ops l k ds σ δ M' L') : RunL P C n ops l k ds σ δ M L :=
  fun a w idx h1 h2 h3 h4 h5 => by
    obtain ⟨M', L', hp, hq⟩ := hm w h4
    exact h M' L' hq a w idx h1 h2 h3 hp h5
theorem st_makeMapE {κ : Type} (enc : κ → Value) {P : Program} {ro : Option Nat} {σ : Env} {δ : Den} {cur : Path} {M : Mem} {L : HL} {d : Option Nat} {ty : TypeId} {pos : String} {aft : Array Edge} {g : Option (Nat × Bool)} {t : TypeId} : St P ro ⟨d, .makeMap t none, ty, pos, aft, g⟩ σ δ cur M L (fun v' M' L' => ∃ b, v' = .map (some b) ∧ M = M' ∧ L' = (b, .map ⟨ents enc []⟩ 0) :: L) := st_makeMap
/-- the first block of ours is given up -/
theorem Hp.freeze1 {M : Mem} {L : HL} {w : World} {b : Nat} {o : Obj} (h : Hp M ((b, o) :: L) w) : ∃ M', M.le M' ∧ M'.blk b = some o ∧ Hp M' L w := ⟨M.add b o, Mem.add_le h.apart_head, Mem.add_self M b o, h.freeze⟩
/-- one in the midst -/
theorem Hp.freezeU {M : Mem} {L A B : HL} {w : World} {b : Nat} {o : Obj} (h : Hp M L w) (hL : L = A ++ (b, o) :: B) : ∃ M', M.le M' ∧ M'.blk b = some o ∧ Hp M' (A ++ B) w := by
  subst hL
  exact (h.perm (List.perm_middle)).freeze1
theorem Cells.ofBlk {M : Mem} {b : Nat} {cs : List Value} {t : TypeId} {fz : Nat × Nat} (h : M.blk b = some (.cells ⟨cs⟩ t fz)) : Cells M [] b 0 cs := ⟨⟨cs⟩, t, fz, .inr h, fun i u hu => by simpa using hu⟩
/-- a slice of our own is given up -/
theorem Hp.freezeOS {M : Mem} {L N : HL} {w : World} {e size n : Nat} {v : Value} {ls : List (List Value)} (h : Hp M (N ++ L) w) (ho : OS e size v n ls.flatten N) (hl : ls.length = n) (hsz : ∀ l ∈ ls, l.length = size) :
    ∃ M' a cap, M.le M' ∧ Hp M' L w ∧ v = .slice a n cap ∧ SlM M' size a n ls := by
  rcases ho with ⟨rfl, rfl, hx, rfl⟩ | ⟨b, cap, cs, rfl, rfl, hle, hcl, hxs⟩
  · have : ls = [] := List.length_eq_zero_iff.1 hl
    subst this
    exact ⟨M, none, 0, Mem.le_refl M, h, rfl, SlM.nil _ _ _⟩
  · obtain ⟨M', h1, h2, h3⟩ := Hp.freeze1 h
    refine ⟨M', some ⟨b, 0, none⟩, cap, h1, h3, rfl, hl, hsz, .inr ⟨b, 0, rfl, fun i c hc => ?_⟩⟩
    refine ⟨⟨cs⟩, e, (0, 0), .inr h2, fun j u hu => ?_⟩
    have hj : j < size := by
      have h4 := hsz c (List.mem_of_getElem? hc)
      have := (List.getElem?_eq_some_iff.1 hu).1
      omega
    have hi : i < ls.length := (List.getElem?_eq_some_iff.1 hc).1
    have key : ls.flatten[i * size + j]? = some u := by
      clear hxs h h1 h2 h3 hl hle
      induction ls generalizing i with
      | nil => simp at hi
      | cons l ls ih =>
        have h5 := hsz l (by simp)
        rw [List.flatten_cons]
        cases i with
        | zero =>
          simp at hc; subst hc
          rw [List.getElem?_append_left (by omega)]; simpa using hu
        | succ i =>
          rw [List.getElem?_append_right (by rw [Nat.add_mul]; omega)]
          have : (i + 1) * size + j - l.length = i * size + j := by rw [Nat.add_mul]; omega
          rw [this]
          exact ih (fun x hx => hsz x (List.mem_cons_of_mem _ hx)) i (by simpa using hc) (by simpa using hi)
    have hlt : i * size + j < n * size := by
      have : (i + 1) * size ≤ n * size := Nat.mul_le_mul_right _ (by omega)
      rw [Nat.add_mul] at this; omega
    rw [← hxs, List.getElem?_take, if_pos hlt] at key
    simpa using key

/-- what follows is proved once -/
theorem run_cut {P : Program} {C : Cx} {n : Nat} {c : Code} {k : List Item} {ds : List Deferred} {σ : Env} {M : Mem} {L : HL} (Q : Env → Mem → HL → Prop) (hmid : ∀ σ' M' L', Q σ' M' L' → Run P C n k ds σ' M' L')
    (h : (∀ σ' M' L', Q σ' M' L' → Run P C n k ds σ' M' L') → Run P C n (.code c :: k) ds σ M L) : Run P C n (.code c :: k) ds σ M L := h hmid
theorem qt_lookupG {κ : Type} [DecidableEq κ] {enc : κ → Value} {P : Program} {T : TT} {ro : Option Nat} {σ : Env} {δ : Den} {cur : Path} {M : Mem} {L : HL} {d : Option Nat} {ty : TypeId} {pos : String} {aft : Array Edge} {g : Option (Nat × Bool)} {kt : TypeId} (hT : TOk P T) (hk : KeyLaw P kt enc) {t : TypeId} {x y : Operand} {b : Nat} {ok : Bool} {et : TypeId} {z kv : Value} {a : κ} {es : KV κ} {clock : Nat} {r : Option Value}
    (hu : und T t = some (.map kt et)) (hx : ev σ δ cur x = some (.map (some b))) (hy : ev σ δ cur y = some kv) (he : kv = enc a) (hb : Blk M L b (.map ⟨ents enc es⟩ clock)) (hz : zeroT T et = some z) (hr : kvGet es a = r) :
    Qt P ro ⟨d, .lookup t x y ok, ty, pos, aft, g⟩ σ δ cur M L (lookRes ok r z) := hr ▸ qt_lookup hT hk hu hx hy he hb hz

theorem RdB.begin' {P : Program} {C : Cx} {n : Nat} {M1 : Mem} {R R' : HL} {J : Mem → HL → Prop} {X : Code → Mem → HL → Prop} (B : RdB P C n M1 R R' J X) {k : List Item} {σ : Env} {M : Mem} {Lc : HL} (L2 : HL) (hL : Lc = L2 ++ R) (h : Run P C n k [] σ M (L2 ++ R')) : Run P C n (.beginRound :: k) [] σ M Lc := hL ▸ B.begin_ k σ M L2 h
theorem RdB.fin' {P : Program} {C : Cx} {n : Nat} {M1 : Mem} {R R' : HL} {J : Mem → HL → Prop} {X : Code → Mem → HL → Prop} (B : RdB P C n M1 R R' J X) {σ : Env} {M2 : Mem} {Lc L2 : HL} (hle : M1.le M2) (hm : ∀ w, Hp M2 Lc w → Hp M2 (L2 ++ R') w) (hJ : J M2 L2) : Run P C n [] [] σ M2 Lc := run_mem hm (B.fin σ M2 L2 hle hJ)
theorem RdB.ret' {P : Program} {C : Cx} {n : Nat} {M1 : Mem} {R R' : HL} {J : Mem → HL → Prop} {X : Code → Mem → HL → Prop} (B : RdB P C n M1 R R' J X) {k : List Item} {σ : Env} {M2 : Mem} {Lc L2 : HL} (hle : M1.le M2) (hm : ∀ w, Hp M2 Lc w → Hp M2 (L2 ++ R') w) (hX : X .ret M2 L2) : Run P C n (.code .ret :: k) [] σ M2 Lc := run_mem hm (B.ret k σ M2 L2 hle hX)

/-! ### a loop -/
theorem run_loopN {P : Program} {C : Cx} {n : Nat} {c : Code} {k : List Item} {ds : List Deferred} {σ : Env} {M : Mem} {L : HL} (S : Nat → Env → Mem → HL → Prop) (N : Nat) (σ0 : Env) (hσ : subE σ σ0) (h0 : S 0 σ0 M L) (bound : ∀ j σ1 M1 L1, S j σ1 M1 L1 → j ≤ N)
    (step : ∀ j σ1 M1 L1, S j σ1 M1 L1 → (∀ σ2 M2 L2, S (j + 1) σ2 M2 L2 → Run P C n (.inLoop c :: k) ds σ2 M2 L2) → Run P C n (.code c :: .inLoop c :: k) ds σ1 M1 L1) : Run P C n (.code (.loop c) :: k) ds σ M L := by
  have key : ∀ m j, N - j = m → ∀ σ1 M1 L1, S j σ1 M1 L1 → Run P C n (.code c :: .inLoop c :: k) ds σ1 M1 L1 := by
    intro m
    induction m with
    | zero =>
      intro j hj σ1 M1 L1 h
      refine step j σ1 M1 L1 h fun σ2 M2 L2 h2 => ?_
      have := bound _ _ _ _ h2
      omega
    | succ m ih =>
      intro j hj σ1 M1 L1 h
      exact step j σ1 M1 L1 h fun σ2 M2 L2 h2 => run_inLoop (ih (j + 1) (by omega) σ2 M2 L2 h2)
  exact run_sub σ0 hσ (run_loop (key _ 0 rfl σ0 M L h0))

/-! ### a region that draws, in the order of the text -/
def dn : Nat → List Nat
  | 0 => []
  | n + 1 => n :: dn n

section
variable {P : Program} {C : Cx} {n : Nat} {k : List Item} {ds : List Deferred} {σ : Env} {δ : Den} {M : Mem} {L : HL} {ops : Array Oper} {X : List Nat}

theorem prn_start {id : Nat} (hm : P.follows .mixedOrders = true) (h : PR P C n ops k ds (dn 0) [] σ [] M L) : Run P C n (.code (.region id ops true) :: k) ds σ M L := run_draw hm h
theorem prn_q {i d : Nat} {op : Op} {ty : TypeId} {pos : String} {aft : Array Edge} {v : Value} (ho : ops[i]? = some ⟨some d, op, ty, pos, aft, none⟩)
    (hq : Qt P C.b.roundOf ⟨some d, op, ty, pos, aft, none⟩ σ δ [] M L v) (hchk : chkQ ops (dn i) i = true) (hd : Nat.blt d n = true) (hn : lkd δ d = none) (hu : unNamed δ d = true)
    (h : PR P C n ops k ds (dn (i + 1)) X ((d, v) :: σ) δ M L) : PR P C n ops k ds (dn i) X σ δ M L := pr_q i hchk ho hq hd hn hu h
theorem prn_g {i d : Nat} {op : Op} {ty : TypeId} {pos : String} {aft : Array Edge} {v : Value} {j s : Nat} {want c : Bool} {p : Path} (ho : ops[i]? = some ⟨some d, op, ty, pos, aft, some (j, want)⟩)
    (hj : slotOf ops j = some s) (hg : lkg σ δ s = some (p, .bool c))
    (hq : Qt P C.b.roundOf ⟨some d, op, ty, pos, aft, some (j, want)⟩ σ δ ((s, want) :: p) M L v) (hchk : chkQ ops (dn i) i = true) (hd : Nat.blt d n = true) (hn : lkd δ d = none) (hsd : lks σ d = none) (hu : unNamed δ d = true) (hp : unP ((s, want) :: p) d = true)
    (h : PR P C n ops k ds (dn (i + 1)) X σ ((d, (s, want) :: p, v) :: δ) M L) : PR P C n ops k ds (dn i) X σ δ M L := pr_g i hchk ho hj hg hq hd hn hsd hu hp h
theorem prn_end {i : Nat} (hac : (acyc ops && (List.range ops.size).all (memN (dn i))) = true) (h : Run P C n k ds σ M L) : PR P C n ops k ds (dn i) X σ δ M L := by
  rw [Bool.and_eq_true] at hac
  exact pr_end hac.1 hac.2 h
theorem prn_e0 {i : Nat} {op : Op} {ty : TypeId} {pos : String} {aft : Array Edge} {K : Value → Mem → HL → Prop} (ho : ops[i]? = some ⟨none, op, ty, pos, aft, none⟩)
    (hst : St P C.b.roundOf ⟨none, op, ty, pos, aft, none⟩ σ δ [] M L K) (hchk : (chkE ops (dn i) i && acyc ops && (open_ ops (dn i) X i).isEmpty) = true)
    (h : ∀ v M' L', K v M' L' → PR P C n ops k ds (dn (i + 1)) (i :: X) σ δ M' L') : PR P C n ops k ds (dn i) X σ δ M L := by
  rw [Bool.and_eq_true, Bool.and_eq_true] at hchk
  refine pr_e i (σ' := fun _ => σ) hchk.1.1 hchk.1.2 ho hst (fun _ _ _ hs => hs) (fun _ _ _ _ q hq => ?_) h
  rw [List.isEmpty_iff.1 hchk.2] at hq; cases hq
/-- one of several that may come next: its slot is put -/
theorem eff1 (e : Nat) {D : List Nat} {d : Nat} {op : Op} {ty : TypeId} {pos : String} {aft : Array Edge} {K : Value → Mem → HL → Prop} {qs : List Nat} (ho : ops[e]? = some ⟨some d, op, ty, pos, aft, none⟩)
    (hst : St P C.b.roundOf ⟨some d, op, ty, pos, aft, none⟩ σ δ [] M L K) (hchk : chkE1 ops D e = true) (hop : open_ ops D X e = qs) (hd : Nat.blt d n = true) (hn : lkd δ d = none) (hu : unNamed δ d = true)
    (h : ∀ v M' L', K v M' L' → PendAll P C.b.roundOf ops σ δ M' L' qs ∧ PR P C n ops k ds (e :: D) (e :: X) ((d, v) :: σ) δ M' L') : chkE1 ops D e = true ∧ EffOk P C n ops k ds D X σ δ M L e :=
  ⟨hchk, some d, op, ty, pos, aft, K, fun v => (d, v) :: σ, none, rfl, ho, hst, fun a v hs hse => hse.put (by rw [hs]; exact Nat.blt_eq.mp hd) hn hu v,
   fun v M' L' hK q hq a ha _ => (h v M' L' hK).1.mem q (by rw [← hop]; exact hq) a ha, fun v M' L' hK => (h v M' L' hK).2⟩
theorem eff0 (e : Nat) {D : List Nat} {op : Op} {ty : TypeId} {pos : String} {aft : Array Edge} {K : Value → Mem → HL → Prop} {qs : List Nat} (ho : ops[e]? = some ⟨none, op, ty, pos, aft, none⟩)
    (hst : St P C.b.roundOf ⟨none, op, ty, pos, aft, none⟩ σ δ [] M L K) (hchk : chkE1 ops D e = true) (hop : open_ ops D X e = qs)
    (h : ∀ v M' L', K v M' L' → PendAll P C.b.roundOf ops σ δ M' L' qs ∧ PR P C n ops k ds (e :: D) (e :: X) σ δ M' L') : chkE1 ops D e = true ∧ EffOk P C n ops k ds D X σ δ M L e :=
  ⟨hchk, none, op, ty, pos, aft, K, fun _ => σ, none, rfl, ho, hst, fun _ _ _ hs => hs,
   fun v M' L' hK q hq a ha _ => (h v M' L' hK).1.mem q (by rw [← hop]; exact hq) a ha, fun v M' L' hK => (h v M' L' hK).2⟩
/-- the same, under a guard that is known to hold -/
theorem eff1g (e : Nat) {D : List Nat} {d : Nat} {op : Op} {ty : TypeId} {pos : String} {aft : Array Edge} {gd : Option (Nat × Bool)} {K : Value → Mem → HL → Prop} {qs : List Nat} (ho : ops[e]? = some ⟨some d, op, ty, pos, aft, gd⟩) (hgd : gdOk ops σ gd = true)
    (hst : St P C.b.roundOf ⟨some d, op, ty, pos, aft, gd⟩ σ δ [] M L K) (hchk : chkE1 ops D e = true) (hop : open_ ops D X e = qs) (hd : Nat.blt d n = true) (hn : lkd δ d = none) (hu : unNamed δ d = true)
    (h : ∀ v M' L', K v M' L' → PendAll P C.b.roundOf ops σ δ M' L' qs ∧ PR P C n ops k ds (e :: D) (e :: X) ((d, v) :: σ) δ M' L') : chkE1 ops D e = true ∧ EffOk P C n ops k ds D X σ δ M L e :=
  ⟨hchk, some d, op, ty, pos, aft, K, fun v => (d, v) :: σ, gd, hgd, ho, hst, fun a v hs hse => hse.put (by rw [hs]; exact Nat.blt_eq.mp hd) hn hu v,
   fun v M' L' hK q hq a ha _ => (h v M' L' hK).1.mem q (by rw [← hop]; exact hq) a ha, fun v M' L' hK => (h v M' L' hK).2⟩
theorem pr_one {D : List Nat} (e : Nat) (hac : (acyc ops && chkC ops D [e]) = true) (h : chkE1 ops D e = true ∧ EffOk P C n ops k ds D X σ δ M L e) : PR P C n ops k ds D X σ δ M L := by
  rw [Bool.and_eq_true] at hac
  exact pr_es [e] hac.1 hac.2 (by simp) fun x hx => by obtain rfl : x = e := by simpa using hx
                                                       exact h
theorem pr_two {D : List Nat} (e f : Nat) (hac : (acyc ops && chkC ops D [e, f]) = true) (h : chkE1 ops D e = true ∧ EffOk P C n ops k ds D X σ δ M L e) (h' : chkE1 ops D f = true ∧ EffOk P C n ops k ds D X σ δ M L f) : PR P C n ops k ds D X σ δ M L := by
  rw [Bool.and_eq_true] at hac
  exact pr_es [e, f] hac.1 hac.2 (by simp) fun x hx => by
    rcases List.mem_cons.1 hx with rfl | hx
    · exact h
    · obtain rfl : x = f := by simpa using hx
      exact h'
theorem prn_e1 {i d : Nat} {op : Op} {ty : TypeId} {pos : String} {aft : Array Edge} {K : Value → Mem → HL → Prop} (ho : ops[i]? = some ⟨some d, op, ty, pos, aft, none⟩)
    (hst : St P C.b.roundOf ⟨some d, op, ty, pos, aft, none⟩ σ δ [] M L K) (hchk : (chkE ops (dn i) i && acyc ops && (open_ ops (dn i) X i).isEmpty) = true) (hd : Nat.blt d n = true) (hn : lkd δ d = none) (hu : unNamed δ d = true)
    (h : ∀ v M' L', K v M' L' → PR P C n ops k ds (dn (i + 1)) (i :: X) ((d, v) :: σ) δ M' L') : PR P C n ops k ds (dn i) X σ δ M L := by
  rw [Bool.and_eq_true, Bool.and_eq_true] at hchk
  refine pr_e i (σ' := fun v => (d, v) :: σ) hchk.1.1 hchk.1.2 ho hst (fun a v hs hse => hse.put (by rw [hs]; exact Nat.blt_eq.mp hd) hn hu v) (fun _ _ _ _ q hq => ?_) h
  rw [List.isEmpty_iff.1 hchk.2] at hq; cases hq
end

end Go.Chi
