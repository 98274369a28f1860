import Derived.Test.YtoldbfndmaglmaaGreatDoorBNA
import Derived.Test.YtoldbfndmaglmaaGreatDoorBNF
import Derived.Test.YtoldbfndmaglmaaGreatDoorBNG
import Derived.Test.YtoldbfndmaglmaaGreatDoorBNH
import Derived.Test.YtoldbfndmaglmaaGreatDoorBNI
import Derived.Test.YtoldbfndmaglmaaGreatDoorBNJ
import Derived.Test.YtoldbfndmaglmaaGreatDoorBNK
import Derived.Test.YtoldbfndmaglmaaGreatDoorRows
import Derived.ChangeMaps5
import Derived.Lib.LaidTab
import Derived.LaidLaws
set_option linter.all false
namespace Go.Proofs.YtoldbfndmaglmaaGreatDoor
open Go.Chi Go.Ev
variable {M : Mem}
def rnQ (G : Nat) (q : Nat → Value) (hq : GoodQ q) : Rn G := { rn0 G with q := q, hq := hq }
theorem conf_run {N : HL} (hN : ∀ b o, M.blk b = some o ↔ (b, o) ∈ N) (hd : (N.map Prod.fst).Nodup) (hGT : GTok 3 M gt) (L : HL) {q : Nat → Value} (hq : GoodQ q) {a : Value}
    (ha : isT (evM.call 3 [a] .nil 3) = true) (hs : Sc 3 3 a) : TrQ Tryz.prog 3 [ren (rnQ 3 q hq) a] M L (.bool true) := by
  obtain ⟨H, nx, he⟩ := isT_ok ha
  have hS := evN_ok (M := M) tok hGT extOk mixed (known2_ok hN hd hGT) 100000
  have hsa : ScL 3 3 [a] := fun v hv => by
    rcases List.mem_cons.1 hv with rfl | hv
    · exact hs
    · cases hv
  obtain ⟨_, h1, _⟩ := hS.call _ _ _ _ _ _ _ he hsa sc_nil (Nat.le_refl 3)
  refine ⟨fun w => h1 _ w, fun w hw => ?_⟩
  have h2 := hS.call.fn he hsa sc_nil (Nat.le_refl 3) (r := rnQ 3 q hq) (rel_nil hw)
  exact h2.mono fun u w' ⟨r', _, hr, e⟩ => ⟨M, L, hr.hp.dropAll, by rw [e]; simp [ren], rfl, rfl⟩
theorem sc_conf {a b c d : Value} (h : ∀ v ∈ [a, b, c, d], Sc 3 3 v) : Sc 3 3 (.agg ⟨[a, b, c, d]⟩) := fun r r' ha => by
  simp only [ren, renA_eq, List.map_cons, List.map_nil]
  rw [h a (by simp) r r' ha, h b (by simp) r r' ha, h c (by simp) r r' ha, h d (by simp) r r' ha]
theorem sc_int {k : IntKind} {n : Int} : Sc 3 3 (.int k n) := fun r r' _ => by simp [ren]
theorem sc_op {k : FloatKind} {i : Nat} : Sc 3 3 (.float k i) := fun r r' ha => by simp [ren, ha.q]
theorem nodeConfs_ok {N : HL} (hN : ∀ b o, M.blk b = some o ↔ (b, o) ∈ N) (hd : (N.map Prod.fst).Nodup) (hGT : GTok 3 M gt) (L : HL) (x y z u : Int) : TrQ Tryz.prog 3 [.agg ⟨confC x y z u⟩] M L (.bool true) := by
  by_cases h : mayP x y z u
  · unfold mayP at h
    have hq : GoodQ (q0 z u 0 0 0 0) := q0_ok (by omega) (by omega) (by omega)
    have key : ∀ a b : Nat, okConf a b = true → x = (a : Int) → y = (b : Int) → TrQ Tryz.prog 3 [.agg ⟨confC x y z u⟩] M L (.bool true) := fun a b ho e1 e2 => by
      have := conf_run hN hd hGT L hq ho (sc_conf (by simp only [List.forall_mem_cons]; exact ⟨sc_int, sc_int, sc_op, sc_op, fun _ h => by cases h⟩))
      rw [e1, e2]
      simpa [ren, renA_eq, rnQ, q0, confC] using this
    rcases (show y = 1 ∨ y = 2 ∨ y = 3 ∨ y = 4 ∨ y = 5 ∨ y = 6 ∨ y = 7 ∨ y = 8 by omega) with rfl | rfl | rfl | rfl | rfl | rfl | rfl | rfl
    · exact key 0 1 conf_0_1 (by omega) rfl
    · rcases (show x = 0 ∨ x = 1 by omega) with rfl | rfl
      · exact key 0 2 conf_0_2 rfl rfl
      · exact key 1 2 conf_1_2 rfl rfl
    · rcases (show x = 0 ∨ x = 1 ∨ x = 2 by omega) with rfl | rfl | rfl
      · exact key 0 3 conf_0_3 rfl rfl
      · exact key 1 3 conf_1_3 rfl rfl
      · exact key 2 3 conf_2_3 rfl rfl
    · rcases (show x = 0 ∨ x = 1 ∨ x = 2 ∨ x = 3 by omega) with rfl | rfl | rfl | rfl
      · exact key 0 4 conf_0_4 rfl rfl
      · exact key 1 4 conf_1_4 rfl rfl
      · exact key 2 4 conf_2_4 rfl rfl
      · exact key 3 4 conf_3_4 rfl rfl
    · rcases (show x = 0 ∨ x = 1 ∨ x = 2 ∨ x = 3 ∨ x = 4 by omega) with rfl | rfl | rfl | rfl | rfl
      · exact key 0 5 conf_0_5 rfl rfl
      · exact key 1 5 conf_1_5 rfl rfl
      · exact key 2 5 conf_2_5 rfl rfl
      · exact key 3 5 conf_3_5 rfl rfl
      · exact key 4 5 conf_4_5 rfl rfl
    · rcases (show x = 0 ∨ x = 1 ∨ x = 2 ∨ x = 3 ∨ x = 4 ∨ x = 5 by omega) with rfl | rfl | rfl | rfl | rfl | rfl
      · exact key 0 6 conf_0_6 rfl rfl
      · exact key 1 6 conf_1_6 rfl rfl
      · exact key 2 6 conf_2_6 rfl rfl
      · exact key 3 6 conf_3_6 rfl rfl
      · exact key 4 6 conf_4_6 rfl rfl
      · exact key 5 6 conf_5_6 rfl rfl
    · rcases (show x = 0 ∨ x = 1 ∨ x = 2 ∨ x = 3 ∨ x = 4 ∨ x = 5 ∨ x = 6 by omega) with rfl | rfl | rfl | rfl | rfl | rfl | rfl
      · exact key 0 7 conf_0_7 rfl rfl
      · exact key 1 7 conf_1_7 rfl rfl
      · exact key 2 7 conf_2_7 rfl rfl
      · exact key 3 7 conf_3_7 rfl rfl
      · exact key 4 7 conf_4_7 rfl rfl
      · exact key 5 7 conf_5_7 rfl rfl
      · exact key 6 7 conf_6_7 rfl rfl
    · rcases (show x = 0 ∨ x = 1 ∨ x = 2 ∨ x = 3 ∨ x = 4 ∨ x = 5 ∨ x = 6 ∨ x = 7 by omega) with rfl | rfl | rfl | rfl | rfl | rfl | rfl | rfl
      · exact key 0 8 conf_0_8 rfl rfl
      · exact key 1 8 conf_1_8 rfl rfl
      · exact key 2 8 conf_2_8 rfl rfl
      · exact key 3 8 conf_3_8 rfl rfl
      · exact key 4 8 conf_4_8 rfl rfl
      · exact key 5 8 conf_5_8 rfl rfl
      · exact key 6 8 conf_6_8 rfl rfl
      · exact key 7 8 conf_7_8 rfl rfl
  · have hq : GoodQ (q0 1 1 x y z u) := q0_ok (by omega) (by omega) (by unfold mayP at h; exact h)
    have := conf_run hN hd hGT L hq conf_no (sc_conf (by simp only [List.forall_mem_cons]; exact ⟨sc_op, sc_op, sc_op, sc_op, fun _ h => by cases h⟩))
    simpa [ren, renA_eq, rnQ, q0, confC] using this
end Go.Proofs.YtoldbfndmaglmaaGreatDoor
namespace Go.Proofs.YtoldbfndmaglmaaGreatDoor
open Go.Chi Go.Ev
theorem uInt : Tryz.prog.underlying 3 = some (.int .i64) := und_ok tok (t := 3) rfl
theorem uBool : Tryz.prog.underlying 4 = some .bool := und_ok tok (t := 4) rfl
theorem uStr : Tryz.prog.underlying 9 = some .string := und_ok tok (t := 9) rfl
theorem strs_of {G : Type} {en : TypeId × Value → G} {P : Program} {w : World} {base : Nat} {sp : Nat → Bool} {held : Bool} {fuel : Nat} {t e : TypeId} {n : Nat} {cs : List Value} {zs : List (List UInt8)} {p : List MemPlace}
    (ht : P.underlying t = some (.array n e)) (he : P.underlying e = some .string) (hce : P.cellsOf e = 1) (hct : P.cellsOf t = n)
    (h : DataW.trod en P w base sp held fuel t cs = some (.agg (zs.map fun z => .lit (.string z)), p)) : cs = zs.map fun z => Value.string ⟨z.toArray⟩ := by
  cases fuel with
  | zero => simp [DataW.trod] at h
  | succ fuel =>
    simp only [DataW.trod, ht, hce, hct, Nat.mul_one] at h
    split at h
    · rename_i hl
      obtain ⟨xs, hm, hx⟩ := Option.map_eq_some_iff.1 h
      have hxs : xs.map (·.1) = zs.map fun z => (DataW.lit (.string z) : DataW G) := by
        have := congrArg Prod.fst hx
        simpa using this
      have hxl : xs.length = n := by simpa using Go.Lib.mapM_length hm
      have hzl : zs.length = n := by
        have := congrArg List.length hxs
        simp at this
        omega
      apply List.ext_getElem?
      intro i
      by_cases hi : i < n
      · obtain ⟨b, hb, hf⟩ := Go.Lib.mapM_at hm i i (by simp [hi])
        obtain ⟨z, hc, rfl, _⟩ := DataW.trod_string he hf
        have h1 : cs[i]? = some (.string z) := by
          have := congrArg (·[0]?) hc
          simpa [List.getElem?_take, List.getElem?_drop] using this
        have h2 : (xs.map (·.1))[i]? = some (DataW.lit (.string z.data.toList) : DataW G) := by simp [hb]
        rw [hxs] at h2
        simp only [List.getElem?_map, Option.map_eq_some_iff, DataW.lit.injEq, Lit.string.injEq] at h2
        obtain ⟨z', hz', rfl⟩ := h2
        simp [h1, hz']
      · rw [List.getElem?_eq_none (by omega), List.getElem?_eq_none (by simp; omega)]
    · cases h
section
variable {H : Type} {enc : TypeId × Value → H} {W : World} {cs : List Value}
theorem rd_conf (h : RD enc Tryz.prog W 25 cs) : ∃ x y z u : Int, cs = confC x y z u := by
  obtain ⟨_, _, rfl, h0, _, _, rfl, h1, _, _, rfl, h2, rfl⟩ := h.struct (und_ok tok (t := 25) rfl) (by kernel_rfl)
  obtain ⟨a, rfl, _⟩ := h0.int uInt
  obtain ⟨b, rfl, _⟩ := h1.int uInt
  obtain ⟨_, _, rfl, h3, _, _, rfl, h4, rfl⟩ := h2.struct (und_ok tok (t := 23) rfl) (by kernel_rfl)
  obtain ⟨c, rfl, _⟩ := h3.int uInt
  obtain ⟨d, rfl, _⟩ := h4.int uInt
  exact ⟨a, b, c, d, rfl⟩
def heapL (W : World) : HL := W.heap.toList.zipIdx.map fun x => (x.2, x.1)
theorem heapL_mem (b : Nat) (o : Obj) : (memOf W).blk b = some o ↔ (b, o) ∈ heapL W := by
  unfold heapL
  simp only [List.mem_map, Prod.mk.injEq, Prod.exists]
  constructor
  · intro h
    exact ⟨o, b, List.mem_zipIdx_iff_getElem?.2 (by simpa [memOf] using h), rfl, rfl⟩
  · rintro ⟨o', b', h, rfl, rfl⟩
    simpa [memOf] using List.mem_zipIdx_iff_getElem?.1 h
theorem heapL_nodup : ((heapL W).map Prod.fst).Nodup := by
  unfold heapL
  rw [List.map_map]
  have e : (Prod.fst ∘ fun x : Obj × Nat => (x.2, x.1)) = Prod.snd := rfl
  rw [e, List.zipIdx_map_snd]
  exact List.nodup_range'
theorem cells_var {n : String} {g : Nat} {c : Array Value} {l : List Value} (hg : Tryz.prog.globalNamed n = some g) (h : W.var? Tryz.prog n = some c) (hl : c.toList = l) : Cells (memOf W) [] g 0 l := by
  unfold World.var? at h
  rw [hg, Option.bind_some] at h
  split at h
  · rename_i c1 t1 f1 he
    cases h
    exact ⟨_, t1, f1, .inr he, fun i v hv => by rw [← hl] at hv; simpa using hv⟩
  · cases h
def kyL : List (List UInt8) := [[], [107], [115]]
theorem gKy : Tryz.prog.globalNamed "chirograph/keys.letters" = some 0 := by kernel_rfl
theorem gSk : Tryz.prog.globalNamed "chirograph/sha.k" = some 1 := by kernel_rfl
theorem g28_of (h : laidMet Tryz.prog [("chirograph/sha.k", Rows.laid_chirograph_sha_k), ("chirograph/keys.letters", Rows.laid_chirograph_keys_letters)] W) : GTok 3 (memOf W) gt := by
  obtain ⟨ps, ⟨g0, t0, c0, f0, p0, q0, hg0, ht0, hv0, hd0, ⟨g1, t1, c1, f1, p1, q1, hg1, ht1, hv1, hd1, _, _⟩, _⟩, _⟩ := h
  obtain rfl := Option.some.inj (gSk.symm.trans hg0)
  obtain rfl := Option.some.inj (gKy.symm.trans hg1)
  obtain rfl := Option.some.inj ((show (Tryz.prog.globals[(1 : Nat)]?).map (·.type) = some 378 by kernel_rfl).symm.trans ht0)
  obtain rfl := Option.some.inj ((show (Tryz.prog.globals[(0 : Nat)]?).map (·.type) = some 350 by kernel_rfl).symm.trans ht1)
  have e0 := Lib.cells_of_tab (zs := shaK.map fun n : Nat => (n : Int)) (k := .u32) (e := 322) (n := 64) (by kernel_rfl) (by kernel_rfl) (by kernel_rfl) (by kernel_rfl) hd0
  have e1 := strs_of (zs := kyL) (e := 9) (n := 3) (und_ok tok (t := 350) rfl) uStr (by kernel_rfl) (by kernel_rfl) hd1
  have m0 := cells_var gSk hv0 e0
  have m1 := cells_var gKy hv1 e1
  intro n cs e hn
  unfold gt at hn
  rw [Bt.get_put] at hn
  split at hn
  · rename_i en
    cases hn
    subst en
    exact ⟨by omega, by simpa [List.map_map, Function.comp_def] using m0, by decide +kernel⟩
  · rw [Bt.get_put] at hn
    split at hn
    · rename_i en
      cases hn
      subst en
      exact ⟨by omega, m1, by decide +kernel⟩
    · rw [Bt.get_nil] at hn; cases hn
end
def putC (cs : List Value) : Obj → Obj
  | .cells _ t frozen => .cells ⟨cs⟩ t frozen
  | o => o
noncomputable def laidW (os : Os) : World :=
  let w0 := World.holding Tryz.prog os ⟨#[], #[], []⟩
  { w0 with heap := (w0.heap.modify 1 (putC (shaK.map fun n : Nat => Value.int .u32 (n : Int)))).modify 0 (putC (kyL.map fun z => Value.string ⟨z.toArray⟩)) }
theorem laidW_met (os : Os) (args : Array Value) : laidMet Tryz.prog Rows.nodeConfsRow.laid ((laidW os).forCall (fun _ _ => 0) ⟨#[], args, []⟩).memory :=
  laidMet_of_run' 8 (by kernel_rfl) (by kernel_rfl)
theorem own : ownKnob Tryz.prog.godebug = none := by kernel_rfl
theorem laid : laidOutB Tryz.prog = true := by kernel_rfl
end Go.Proofs.YtoldbfndmaglmaaGreatDoor
