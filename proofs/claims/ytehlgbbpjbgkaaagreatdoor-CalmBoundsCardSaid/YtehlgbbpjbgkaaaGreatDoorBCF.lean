import Derived.Test.YtehlgbbpjbgkaaaGreatDoorBCA
import Derived.Test.YtehlgbbpjbgkaaaGreatDoorBCE
import Derived.Test.YtehlgbbpjbgkaaaGreatDoorRows
import Derived.ChangeMaps5
import Derived.Lib.LaidTab
import Derived.LaidLaws
set_option linter.all false
namespace Go.Proofs.YtehlgbbpjbgkaaaGreatDoor
open Go.Chi Go.Ev
variable {M : Mem}
theorem alive_ok {N : HL} (hN : ∀ b o, M.blk b = some o ↔ (b, o) ∈ N) (hd : (N.map Prod.fst).Nodup) (hGT : GTok Tryz.prog 3 M gt) (L : HL) : TrQ Tryz.prog 6 [] M L (.bool true) := by
  obtain ⟨H, nx, he⟩ := isT_ok alive_ev
  have hS := evN_ok (M := M) tok hGT extOk mixed (known3_ok hN hd hGT) 100000
  obtain ⟨_, h1, _⟩ := hS.call _ _ _ _ _ _ _ he sc_args sc_nil (Nat.le_refl 3)
  refine ⟨fun w => h1 _ w, fun w hw => ?_⟩
  have h2 := hS.call.fn he sc_args sc_nil (Nat.le_refl 3) (r := rn0 3) (rel_nil hw)
  exact h2.mono fun u w' ⟨r', _, hr, e⟩ => ⟨M, L, hr.hp.dropAll, by rw [e]; simp [ren], rfl, rfl⟩
def bndB (r t n : Int) : Bool := decide (r < 1) || decide (r > 100) || decide (t < 1) || decide (t > 10000) || decide (n < 1) || decide (n > 8)
def bndN (r t n : Int) : Int := if bndB r t n then 0 else IntKind.i64.wrap (IntKind.i64.wrap (t + IntKind.i64.wrap (8 * r)) + IntKind.i64.wrap (IntKind.i64.wrap (2 * n) * IntKind.i64.wrap (r + 2)))
def bndE (r t n : Int) : Int := if bndB r t n then 2 else 0
theorem bound_ok (M : Mem) (L : HL) (r t n : Int) : TrQ Tryz.prog 4 [.agg ⟨[.int .i64 r, .int .i64 t]⟩, .int .i64 n] M L (.tuple ⟨[.int .i64 (bndN r t n), .int .i64 (bndE r t n)]⟩) := by
  refine Tr.intro 45 Tryz.func4 rfl rfl Tryz.call4 rfl ?_; intro C hC hro
  repeat (first | refine zz ?_ | refine zx fun _ => ?_)
  refine run_cond (t := bndB r t n) rfl (fun h => ?_) (fun h => ?_)
  · repeat (first | refine zz ?_ | refine zx fun _ => ?_)
    exact run_ret hC (rs := [.tmp 4, .tmp 5]) rfl (resT rfl (resT rfl resN)) (fun _ h => h.drop) ⟨by rw [bndN, bndE, if_pos h, if_pos h]; rfl, rfl, rfl⟩
  · repeat (first | refine zz ?_ | refine zx fun _ => ?_)
    exact run_ret hC (rs := [.tmp 4, .tmp 5]) rfl (resT rfl (resT rfl resN)) (fun _ h => h.drop) ⟨by rw [bndN, bndE, h]; rfl, rfl, rfl⟩
theorem refBound_ok (M : Mem) (L : HL) (r t n : Int) : TrQ Tryz.prog 5 [.agg ⟨[.int .i64 r, .int .i64 t]⟩, .int .i64 n] M L (.tuple ⟨[.int .i64 (bndN r t n), .int .i64 (bndE r t n)]⟩) := by
  refine Tr.intro 45 Tryz.func5 rfl rfl Tryz.call5 rfl ?_; intro C hC hro
  repeat (first | refine zz ?_ | refine zx fun _ => ?_)
  refine run_cond (t := bndB r t n) rfl (fun h => ?_) (fun h => ?_)
  · repeat (first | refine zz ?_ | refine zx fun _ => ?_)
    exact run_ret hC (rs := [.tmp 4, .tmp 5]) rfl (resT rfl (resT rfl resN)) (fun _ h => h.drop) ⟨by rw [bndN, bndE, if_pos h, if_pos h]; rfl, rfl, rfl⟩
  · repeat (first | refine zz ?_ | refine zx fun _ => ?_)
    exact run_ret hC (rs := [.tmp 4, .tmp 5]) rfl (resT rfl (resT rfl resN)) (fun _ h => h.drop) ⟨by rw [bndN, bndE, h]; rfl, rfl, rfl⟩
theorem calmBounds_ok {N : HL} (hN : ∀ b o, M.blk b = some o ↔ (b, o) ∈ N) (hd : (N.map Prod.fst).Nodup) (hGT : GTok Tryz.prog 3 M gt) (L : HL) (r t n : Int) : TrQ Tryz.prog 3 [.agg ⟨[.int .i64 r, .int .i64 t]⟩, .int .i64 n] M L (.bool true) := by
  have ha := fun L => alive_ok hN hd hGT L
  refine Tr.intro 32 Tryz.func3 rfl rfl Tryz.call3 rfl ?_; intro C hC hro
  repeat (first | refine zz ?_ | refine zx fun _ => ?_)
  refine runL_q (qt_callF rfl (fun _ => bound_ok _ _ r t n)) rfl rfl rfl ?_
  repeat (first | refine zz ?_ | refine zx fun _ => ?_)
  refine runL_q (qt_callF rfl (fun _ => refBound_ok _ _ r t n)) rfl rfl rfl ?_
  repeat (first | refine zz ?_ | refine zx fun _ => ?_)
  refine runL_g rfl rfl (qt_callF rfl (fun _ => ha _)) rfl rfl rfl rfl rfl ?_
  repeat (first | refine zz ?_ | refine zx fun _ => ?_)
  exact run_ret hC (rs := [.tmp 4]) rfl (resT rfl resN) (fun _ h => h.drop) ⟨by simp [resVal], rfl, rfl⟩
end Go.Proofs.YtehlgbbpjbgkaaaGreatDoor
namespace Go.Proofs.YtehlgbbpjbgkaaaGreatDoor
open Go.Chi Go.Ev
theorem uInt : Tryz.prog.underlying 3 = some (.int .i64) := und_ok tok (t := 3) rfl
theorem uBool : Tryz.prog.underlying 4 = some .bool := und_ok tok (t := 4) rfl
theorem uStr : Tryz.prog.underlying 9 = some .string := und_ok tok (t := 9) rfl
theorem strs_of {G : Type} {en : TypeId × Value → G} {P : Program} {w : World} {base : Nat} {sp : Nat → Bool} {held : Bool} {fuel : Nat} {t e : TypeId} {n : Nat} {cs : List Value} {zs : List (List UInt8)} {p : List MemPlace}
    (ht : P.underlying t = some (.array n e)) (he : P.underlying e = some .string) (hce : P.cellsOf e = 1) (hct : P.cellsOf t = n)
    (h : DataW.trod en P w base sp held fuel t cs = some (.agg (zs.map fun z => .lit (.string z)), p)) : cs = zs.map fun z => Value.string ⟨z.toArray⟩ := by
  cases fuel with
  | zero => simp [DataW.trod] at h
  | succ fuel =>
    simp only [DataW.trod, ht, hce, hct, Nat.mul_one] at h
    split at h
    · rename_i hl
      obtain ⟨xs, hm, hx⟩ := Option.map_eq_some_iff.1 h
      have hxs : xs.map (·.1) = zs.map fun z => (DataW.lit (.string z) : DataW G) := by
        have := congrArg Prod.fst hx
        simpa using this
      have hxl : xs.length = n := by simpa using Go.Lib.mapM_length hm
      have hzl : zs.length = n := by
        have := congrArg List.length hxs
        simp at this
        omega
      apply List.ext_getElem?
      intro i
      by_cases hi : i < n
      · obtain ⟨b, hb, hf⟩ := Go.Lib.mapM_at hm i i (by simp [hi])
        obtain ⟨z, hc, rfl, _⟩ := DataW.trod_string he hf
        have h1 : cs[i]? = some (.string z) := by
          have := congrArg (·[0]?) hc
          simpa [List.getElem?_take, List.getElem?_drop] using this
        have h2 : (xs.map (·.1))[i]? = some (DataW.lit (.string z.data.toList) : DataW G) := by simp [hb]
        rw [hxs] at h2
        simp only [List.getElem?_map, Option.map_eq_some_iff, DataW.lit.injEq, Lit.string.injEq] at h2
        obtain ⟨z', hz', rfl⟩ := h2
        simp [h1, hz']
      · rw [List.getElem?_eq_none (by omega), List.getElem?_eq_none (by simp; omega)]
    · cases h
theorem pk_eq (a b : Int × Int × List UInt8) : (a.1 == b.1 && (a.2.1 == b.2.1 && (((⟨⟨a.2.2⟩⟩ : ByteArray).toList == (⟨⟨b.2.2⟩⟩ : ByteArray).toList) && true))) = decide (a = b) := by
  rw [bytes_beq, Bool.eq_iff_iff, decide_eq_true_eq]
  obtain ⟨a1, a2, a3⟩ := a
  obtain ⟨b1, b2, b3⟩ := b
  simp
theorem keyPk : KeyLaw Tryz.prog 141 (encK .p) where
  eq := fun a b w => by
    have h := eqv_ok (P := Tryz.prog) (T := tt) tok (n := 10) (t := 141) (x := encK .p a) (y := encK .p b) (b := _) rfl 10000 (by omega) w
    unfold Op.equal Op.maxDepth
    refine h.trans ?_
    exact congrArg (fun b => Result.ok b w) (pk_eq a b)
  chk := fun e a w => by
    have hu : Tryz.prog.underlying 141 = some (.struct _) := und_ok tok (t := 141) rfl
    rw [Instr.checkKey]
    simp only [Sem.run_bind, run_underlying hu, Result.andThen_ok]
    have c3 : ∀ n : Int, (Instr.checkKey e 9999 3 (.int .i64 n)).run Tryz.prog w = .ok () w := fun n => chk_plain (und_ok tok (t := 3) rfl) (by intro x h; cases h) (by intro x y h; cases h) (by intro x h; cases h) e 9998 w
    have c9 : ∀ n : ByteArray, (Instr.checkKey e 9999 9 (.string n)).run Tryz.prog w = .ok () w := fun n => chk_plain (und_ok tok (t := 9) rfl) (by intro x h; cases h) (by intro x y h; cases h) (by intro x h; cases h) e 9998 w
    have p0 : (part 3 ⟨[.int .i64 a.1, .int .i64 a.2.1, .string ⟨⟨a.2.2⟩⟩]⟩ 0).run Tryz.prog w = .ok (.int .i64 a.1) w := run_part tok rfl w
    have p1 : (part 3 ⟨[.int .i64 a.1, .int .i64 a.2.1, .string ⟨⟨a.2.2⟩⟩]⟩ 1).run Tryz.prog w = .ok (.int .i64 a.2.1) w := run_part tok rfl w
    have p2 : (part 9 ⟨[.int .i64 a.1, .int .i64 a.2.1, .string ⟨⟨a.2.2⟩⟩]⟩ 2).run Tryz.prog w = .ok (.string ⟨⟨a.2.2⟩⟩) w := run_part tok rfl w
    simp [encK, List.forIn_cons, p0, p1, p2, c3, c9]
  und := ⟨_, und_ok tok (t := 141) rfl, fun a b => .inr rfl⟩
  bits := fun a => by simp [Instr.sameBits, encK]; rw [beq_toListBytes, bytes_beq]; simp
section
variable {H : Type} {enc : TypeId × Value → H} {W : World} {cs : List Value}
theorem rd_pace (h : RD enc Tryz.prog W 23 cs) : ∃ x y : Int, cs = [.int .i64 x, .int .i64 y] := by
  obtain ⟨_, _, rfl, h0, _, _, rfl, h1, rfl⟩ := h.struct (und_ok tok (t := 23) rfl) (by kernel_rfl)
  obtain ⟨a, rfl, _⟩ := h0.int uInt
  obtain ⟨b, rfl, _⟩ := h1.int uInt
  exact ⟨a, b, rfl⟩
def heapL (W : World) : HL := W.heap.toList.zipIdx.map fun x => (x.2, x.1)
theorem heapL_mem (b : Nat) (o : Obj) : (memOf W).blk b = some o ↔ (b, o) ∈ heapL W := by
  unfold heapL
  simp only [List.mem_map, Prod.mk.injEq, Prod.exists]
  constructor
  · intro h
    exact ⟨o, b, List.mem_zipIdx_iff_getElem?.2 (by simpa [memOf] using h), rfl, rfl⟩
  · rintro ⟨o', b', h, rfl, rfl⟩
    simpa [memOf] using List.mem_zipIdx_iff_getElem?.1 h
theorem heapL_nodup : ((heapL W).map Prod.fst).Nodup := by
  unfold heapL
  rw [List.map_map]
  have e : (Prod.fst ∘ fun x : Obj × Nat => (x.2, x.1)) = Prod.snd := rfl
  rw [e, List.zipIdx_map_snd]
  exact List.nodup_range'
theorem cells_var {n : String} {g : Nat} {c : Array Value} {l : List Value} (hg : Tryz.prog.globalNamed n = some g) (h : W.var? Tryz.prog n = some c) (hl : c.toList = l) : Cells (memOf W) [] g 0 l := by
  unfold World.var? at h
  rw [hg, Option.bind_some] at h
  split at h
  · rename_i c1 t1 f1 he
    cases h
    exact ⟨_, t1, f1, .inr he, fun i v hv => by rw [← hl] at hv; simpa using hv⟩
  · cases h
def kyL : List (List UInt8) := [[], [107], [115]]
theorem gKy : Tryz.prog.globalNamed "chirograph/keys.letters" = some 0 := by kernel_rfl
theorem gSk : Tryz.prog.globalNamed "chirograph/sha.k" = some 2 := by kernel_rfl
theorem g36_of (h : laidMet Tryz.prog [("chirograph/sha.k", Rows.laid_chirograph_sha_k), ("chirograph/keys.letters", Rows.laid_chirograph_keys_letters)] W) : GTok Tryz.prog 3 (memOf W) gt := by
  obtain ⟨ps, ⟨g0, t0, c0, f0, p0, q0, hg0, ht0, hv0, hd0, ⟨g1, t1, c1, f1, p1, q1, hg1, ht1, hv1, hd1, _, _⟩, _⟩, _⟩ := h
  obtain rfl := Option.some.inj (gSk.symm.trans hg0)
  obtain rfl := Option.some.inj (gKy.symm.trans hg1)
  obtain rfl := Option.some.inj ((show (Tryz.prog.globals[(2 : Nat)]?).map (·.type) = some 549 by kernel_rfl).symm.trans ht0)
  obtain rfl := Option.some.inj ((show (Tryz.prog.globals[(0 : Nat)]?).map (·.type) = some 293 by kernel_rfl).symm.trans ht1)
  have e0 := Lib.cells_of_tab (zs := shaK.map fun n : Nat => (n : Int)) (k := .u32) (e := 471) (n := 64) (by kernel_rfl) (by kernel_rfl) (by kernel_rfl) (by kernel_rfl) hd0
  have e1 := strs_of (zs := kyL) (e := 9) (n := 3) (und_ok tok (t := 293) rfl) uStr (by kernel_rfl) (by kernel_rfl) hd1
  have m0 := cells_var gSk hv0 e0
  have m1 := cells_var gKy hv1 e1
  refine ⟨fun n cs e hn => ?_, fun kt es c hk => ?_⟩
  · unfold gt at hn
    rw [Bt.get_put] at hn
    split at hn
    · cases hn
    · rw [Bt.get_put] at hn
      split at hn
      · rename_i en
        cases hn
        subst en
        exact ⟨by decide, by simpa [List.map_map, Function.comp_def] using m0, by decide +kernel⟩
      · rw [Bt.get_put] at hn
        split at hn
        · rename_i en
          cases hn
          subst en
          exact ⟨by decide, m1, by decide +kernel⟩
        · rw [Bt.get_nil] at hn; cases hn
  · unfold gt at hk
    rw [Bt.get_put] at hk
    split at hk
    · rename_i en
      have : kt = 141 := by omega
      subst this
      exact keyPk
    · rw [Bt.get_put] at hk
      split at hk
      · cases hk
      · rw [Bt.get_put] at hk
        split at hk
        · cases hk
        · rw [Bt.get_nil] at hk; cases hk
end
def putC (cs : List Value) : Obj → Obj
  | .cells _ t frozen => .cells ⟨cs⟩ t frozen
  | o => o
noncomputable def laidW (os : Os) : World :=
  let w0 := World.holding Tryz.prog os ⟨#[], #[], []⟩
  { w0 with heap := (w0.heap.modify 2 (putC (shaK.map fun n : Nat => Value.int .u32 (n : Int)))).modify 0 (putC (kyL.map fun z => Value.string ⟨z.toArray⟩)) }
theorem laidW_met (os : Os) (args : Array Value) : laidMet Tryz.prog Rows.calmBoundsRow.laid ((laidW os).forCall (fun _ _ => 0) ⟨#[], args, []⟩).memory :=
  laidMet_of_run' 8 (by kernel_rfl) (by kernel_rfl)
theorem own : ownKnob Tryz.prog.godebug = none := by kernel_rfl
theorem laid : laidOutB Tryz.prog = true := by kernel_rfl
end Go.Proofs.YtehlgbbpjbgkaaaGreatDoor
