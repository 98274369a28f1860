import Derived.Test.YtladcmfbkiogbaaGreatDoorBUA
import Derived.Test.YtladcmfbkiogbaaGreatDoorBUB
import Derived.Test.YtladcmfbkiogbaaGreatDoorBUC
import Derived.Test.YtladcmfbkiogbaaGreatDoorBUD
import Derived.RangeFuncIn
import Derived.Laws.AppendOwn
import Derived.RowKit3
import Derived.KernelRfl
import Derived.Orders
import Derived.Laws.StructEq
import Derived.Laws.CopyRow
import Derived.RangeFuncLeaves
import Derived.RangeFuncRecord
import Derived.IntWalk
import Derived.ChangeBook
import Derived.ChangeSame
import Derived.ChangeArms
import Derived.Deep.Slices
import Derived.JoinedOf
import Derived.OpenShut
import Derived.Handed
import Derived.Test.YtladcmfbkiogbaaGreatDoorRows
import Derived.Recover
import Derived.Laws.Runes
import Derived.Laws.RangeAny
import Derived.Laws.BytesString
import Derived.Below
import Derived.Lib.ConvBytes
import Derived.Laws.RangeString
import Derived.Shelf.Small.Utf8
import Derived.Shelf.Small.Strs
import Derived.Shelf.Small.Wraps
import Derived.Shelf.Utf8.RuneCount
import Derived.Shelf.Strconv.Atoi
import Derived.Shelf.Strconv.Itoa0
import Derived.Shelf.Strconv.Itoa1
import Derived.Shelf.LaysM
import Derived.Shelf.Strconv.Itoa2
import Derived.Shelf.Strconv.Itoa3
import Derived.Shelf.Strconv.AtoiErrFast
import Derived.Shelf.Strconv.ParseIntEmpty
import Derived.Shelf.Strconv.AtoiFail
import Derived.Shelf.Strconv.Clone
import Derived.Shelf.Strconv.SyntaxError
import Derived.Shelf.LaysC
import Derived.Shelf.Strconv.ToError
import Derived.Shelf.Strconv.Lower
import Derived.Shelf.Strconv.ParseUint10
import Derived.Shelf.Strconv.ParseUint10Empty
import Derived.Shelf.Strconv.ParseUint10Any
import Derived.Shelf.Strconv.ParseInt10
import Derived.Shelf.Strconv.AtoiLong
import Derived.Shelf.Strconv.AtoiInnerAll
import Derived.Shelf.Strconv.RangeError
import Derived.Shelf.Strconv.ToErrorRange
import Derived.Shelf.Strconv.AtoiAll
import Derived.Shelf.Strconv.ErrVarAll
import Derived.Shelf.Strconv.ParseUintEmpty
import Derived.Shelf.Strconv.ParseUint10b64
import Derived.Shelf.Strconv.ParseUint10b32
import Derived.Shelf.Strconv.ParseUint10b16
import Derived.Shelf.Strconv.ParseUint10b8
import Derived.Shelf.Strconv.ParseUint10At
import Derived.Shelf.Strconv.ParseInt10At64
import Derived.Shelf.Strconv.ParseInt10At32
import Derived.Shelf.Strconv.ParseInt10At16
import Derived.Shelf.Strconv.ParseInt10At8
import Derived.Shelf.Strconv.ParseInt10All
import Derived.Shelf.Strconv.ParseIntPublic10
import Derived.Shelf.Strconv.ErrVarParseInt
import Derived.Shelf.Strings.Search1
import Derived.Shelf.Strings.Search2
import Derived.Shelf.Strings.Cut
import Derived.Shelf.Strings.Shaped
import Derived.Shelf.Strings.Prefix
import Derived.Shelf.Strings.Runes
import Derived.Shelf.Strings.RuneCount
import Derived.Shelf.Strings.IndexAny
import Derived.Shelf.Strings.AsciiSet
import Derived.Shelf.Strings.IndexAnyAll
import Derived.Shelf.Slices.Turned
import Derived.Test.YtladcmfbkiogbaaGreatDoorProg
import Derived.Lib.ItoaMem
import Derived.Lib.AtoiErrMem
import Derived.Lib.QuietBelow
import Derived.Lib.ParseIntBTie
import Derived.Laws.MakeOwn
import Derived.Laws.OwnMore
import Derived.Lib.UnsafeStr
import Derived.Lib.Builder
import Derived.Lib.DecodeN
import Derived.Deep.WholeRow
import Derived.Laws.Cover4
import Derived.Lib.AtoiTie
import Derived.ChangeMaps5
import Derived.Lib.LaidTab
import Derived.LaidLaws
set_option linter.all false
namespace Go.Chi
section
variable {P : Program} {T : TT} {ro : Option Nat} {σ : Env} {δ : Den} {cur : Path} {M : Mem} {L : HL} {d : Option Nat} {op : Op} {ty : TypeId} {pos : String} {aft : Array Edge} {g : Option (Nat × Bool)} {v : Value}
end
section
variable {P : Program} {C : Cx} {n : Nat} {k : List Item} {ds : List Deferred} {σ : Env} {δ : Den} {M : Mem} {L : HL} {ops : Array Oper} {X : List Nat}
theorem eff0 (e : Nat) {D : List Nat} {op : Op} {ty : TypeId} {pos : String} {aft : Array Edge} {K : Value → Mem → HL → Prop} {qs : List Nat} (ho : ops[e]? = some ⟨none, op, ty, pos, aft, none⟩)
    (hst : St P C.b.roundOf ⟨none, op, ty, pos, aft, none⟩ σ δ [] M L K) (hchk : chkE1 ops D e = true) (hop : open_ ops D X e = qs)
    (h : ∀ v M' L', K v M' L' → PendAll P C.b.roundOf ops σ δ M' L' qs ∧ PR P C n ops k ds (e :: D) (e :: X) σ δ M' L') : chkE1 ops D e = true ∧ EffOk P C n ops k ds D X σ δ M L e :=
  ⟨hchk, none, op, ty, pos, aft, K, fun _ => σ, none, rfl, ho, hst, fun _ _ _ hs => hs,
   fun v M' L' hK q hq a ha _ => (h v M' L' hK).1.mem q (by rw [← hop]; exact hq) a ha, fun v M' L' hK => (h v M' L' hK).2⟩
end
end Go.Chi
namespace Go.Chi
section
variable {P : Program} {C : Cx} {n : Nat} {k : List Item} {ds : List Deferred} {σ : Env} {δ : Den} {M : Mem} {L : HL} {ops : Array Oper} {X : List Nat}
theorem rg {d : Nat} {op : Op} {ty : TypeId} {pos : String} {aft : Array Edge} {l : List Oper} {v : Value} {j s : Nat} {want c : Bool} {p : Path}
    (hj : slotOf ops j = some s) (hg : lkg σ δ s = some (p, .bool c))
    (hst : Qt P C.b.roundOf ⟨some d, op, ty, pos, aft, some (j, want)⟩ σ δ ((s, want) :: p) M L v)
    (h : RunL P C n ops l k ds σ ((d, (s, want) :: p, v) :: δ) M L)
    (hd : Nat.blt d n = true := by exact rfl) (hn : lkd δ d = none := by exact rfl) (hsd : lks σ d = none := by exact rfl) (hu : unNamed δ d = true := by exact rfl) (hp : unP ((s, want) :: p) d = true := by exact rfl) : RunL P C n ops (⟨some d, op, ty, pos, aft, some (j, want)⟩ :: l) k ds σ δ M L :=
  runL_g hj hg hst hd hn hsd hu hp h
end
end Go.Chi
namespace Go.Chi
section
variable {P : Program} {C : Cx} {n : Nat} {k : List Item} {ds : List Deferred} {σ : Env} {δ : Den} {M : Mem} {L : HL} {ops : Array Oper} {D X : List Nat}
end
theorem SrcG.ofSlM {M : Mem} {L : HL} {size : Nat} {a : Option Addr} {n c : Nat} {ls : List (List Value)} (h : SlM M size a n ls) : SrcG M L size (.slice a n c) n ls.flatten := by
  obtain ⟨h1, h2, h3⟩ := h
  have flen : ∀ (l : List (List Value)), (∀ x ∈ l, x.length = size) → l.flatten.length = l.length * size := by
    intro l hl'
    induction l with
    | nil => simp
    | cons x l ih => rw [List.flatten_cons, List.length_append, hl' x (by simp), ih (fun y hy => hl' y (List.mem_cons_of_mem _ hy)), List.length_cons, Nat.add_mul]; omega
  rcases h3 with rfl | ⟨b, off, rfl, hcell⟩
  · simp only [List.length_nil] at h1
    subst h1
    exact .inl ⟨a, c, rfl, rfl, rfl⟩
  · by_cases h0 : n = 0
    · subst h0
      have : ls = [] := List.length_eq_zero_iff.1 h1
      subst this
      exact .inl ⟨_, c, rfl, rfl, rfl⟩
    · refine .inr ⟨b, off, c, rfl, ?_, by rw [flen ls h2, h1]⟩
      -- one block holds them all
      have hpos : 0 < ls.length := by omega
      obtain ⟨cs, t, fz, hb, _⟩ := hcell 0 _ (List.getElem?_eq_getElem hpos)
      have hb' : M.blk b = some (.cells cs t fz) := by
        rcases hb with hb | hb
        · cases hb
        · exact hb
      refine ⟨cs, t, fz, .inr hb', fun i v hv => ?_⟩
      have hsz : 0 < size := by
        rcases Nat.eq_zero_or_pos size with h | h
        · subst h
          have := (List.getElem?_eq_some_iff.1 hv).1
          rw [flen ls h2] at this
          simp at this
        · exact h
      have hil : i < ls.length * size := by have := (List.getElem?_eq_some_iff.1 hv).1; rwa [flen ls h2] at this
      have hq : i / size < ls.length := (Nat.div_lt_iff_lt_mul hsz).2 hil
      have hm : i % size < size := Nat.mod_lt _ hsz
      have hlen := h2 _ (List.getElem_mem hq)
      have h4 := flat_at h2 (List.getElem?_eq_getElem hq) (List.getElem?_eq_getElem (show i % size < (ls[i / size]).length by omega))
      rw [Nat.mul_comm, Nat.div_add_mod, hv] at h4
      obtain ⟨cs', t', fz', hb2, hc2⟩ := hcell (i / size) _ (List.getElem?_eq_getElem hq)
      have hb2' : M.blk b = some (.cells cs' t' fz') := by
        rcases hb2 with hb2 | hb2
        · cases hb2
        · exact hb2
      rw [hb'] at hb2'
      injection hb2' with e
      injection e with e1
      have h5 := hc2 (i % size) v (by rw [List.getElem?_eq_getElem (show i % size < (ls[i / size]).length by omega)]; exact h4.symm)
      rw [← e1] at h5
      rw [← h5]
      congr 1
      have := Nat.div_add_mod i size
      rw [Nat.mul_comm] at this
      omega
end Go.Chi
namespace Go.Proofs.YtladcmfbkiogbaaGreatDoor
open Go.Chi
section
variable {C : Cx} {n : Nat} {k : List Item} {ds : List Deferred} {σ : Env} {δ : Den} {M : Mem} {L L' : HL} {ops : Array Oper} {X : List Nat} {d i : Nat} {op : Op} {ty : TypeId} {pos : String} {aft : Array Edge} {l : List Oper} {v u : Value} {j s : Nat} {want c : Bool} {p : Path} {t : TypeId} {x y : Operand} {b off sz : Nat} {cs cs' : List Value} {et : TypeId} {f : FuncId} {args : Array Operand} {tys : Array TypeId} {vs : List Value} {K : Value → Mem → HL → Prop}
theorem pgc (ht : TrQ Tryz.prog f vs M L v) (h : PR Tryz.prog C n ops k ds (dn (i + 1)) X σ ((d, (s, want) :: p, v) :: δ) M L) (ho : ops[i]? = some ⟨some d, .call ⟨.value (.func f), args, tys⟩, ty, pos, aft, some (j, want)⟩ := by exact rfl) (hj : slotOf ops j = some s := by exact rfl) (hg : lkg σ δ s = some (p, .bool c) := by exact rfl) (ha : evs σ δ ((s, want) :: p) args.toList = some vs := by exact rfl) (hchk : chkQ ops (dn i) i = true := by decide +kernel) (hd : Nat.blt d n = true := by exact rfl) (hn : lkd δ d = none := by exact rfl) (hsd : lks σ d = none := by exact rfl) (hu : unNamed δ d = true := by exact rfl) (hp : unP ((s, want) :: p) d = true := by exact rfl) : PR Tryz.prog C n ops k ds (dn i) X σ δ M L := prn_g ho hj hg (qt_callF ha fun _ => ht) hchk hd hn hsd hu hp h
end
end Go.Proofs.YtladcmfbkiogbaaGreatDoor
namespace Go.Proofs.YtladcmfbkiogbaaGreatDoor
open Go.Chi
set_option maxRecDepth 10000
set_option maxRecDepth 10000 in
set_option maxHeartbeats 4000000 in
theorem digits_ok (M : Mem) : ∀ v : Nat, v < 18446744073709551616 → ∀ L : HL, TrQ Tryz.prog 218 [.int .u64 (v : Int)] M L (.string (digN v)) := by
  intro v
  induction v using Nat.strongRecOn with
  | _ v ih =>
    intro hv L
    refine Tr.intro 14 Tryz.func218 rfl rfl Tryz.call218 rfl ?_
    intro C hC hro
    repeat (first | refine zz ?_ | refine zx fun _ => ?_)
    refine run_cond rfl (fun h => ?_) (fun h => ?_)
    · have h0 : v = 0 := by simp at h; omega
      subst h0
      repeat (first | refine zz ?_ | refine zx fun _ => ?_)
      exact run_ret hC (rs := [.tmp 2]) rfl (resT rfl resN) (fun _ h => h) ⟨by rw [digN_zero]; rfl, rfl, rfl⟩
    have h0 : v ≠ 0 := by simp at h; omega
    have hlen := digN_len (v := v / 256) (by omega)
    refine run_skip ?_
    refine run_seq ?_
    refine prn_start mixed ?_
    iterate 1 (first | refine dq ?_ | refine dgK ?_ | refine prn_gF rfl rfl rfl (by decide +kernel) rfl rfl rfl ?_ | refine dg ?_ | refine dz ?_ | refine dx fun _ => ?_)
    have e6 : Value.int .u64 (IntKind.u64.wrap ((v : Int).tdiv 256)) = .int .u64 ((v / 256 : Nat) : Int) := by rw [Int.tdiv_eq_ediv_of_nonneg (by omega), show (v : Int) / 256 = ((v / 256 : Nat) : Int) by omega, u64_nat (by omega)]
    have hd : digN v = digN (v / 256) ++ bytesI [((v % 256 : Nat) : Int)] := by rw [digN, if_neg h0]
    refine prn_q rfl ((qt_quo rfl rfl (fun _ => by decide)).as e6) (by decide +kernel) rfl rfl rfl ?_
    refine prn_q rfl (qt_callF rfl (fun _ => ih (v / 256) (by omega) (by omega) _)) (by decide +kernel) rfl rfl rfl ?_
    iterate 1 (first | refine dq ?_ | refine dgK ?_ | refine prn_gF rfl rfl rfl (by decide +kernel) rfl rfl rfl ?_ | refine dg ?_ | refine dz ?_ | refine dx fun _ => ?_)
    refine prn_q rfl (qt_rem rfl rfl (fun _ => by decide)) (by decide +kernel) rfl rfl rfl ?_
    refine pr_as 9 (.int .u64 ((v % 256 : Nat) : Int)) rfl (by rw [Int.tmod_eq_emod_of_nonneg (by omega)]; first | rfl | (congr 1; omega)) ?_
    iterate 1 (first | refine dq ?_ | refine dgK ?_ | refine prn_gF rfl rfl rfl (by decide +kernel) rfl rfl rfl ?_ | refine dg ?_ | refine dz ?_ | refine dx fun _ => ?_)
    refine pr_as 10 (.int .u8 ((v % 256 : Nat) : Int)) rfl (by rw [u8_nat (by omega)]) ?_
    refine prn_o1 rfl (st_buildSlice tok rfl rfl rfl rfl rfl rfl rfl) (by decide +kernel) rfl rfl rfl ?_
    rintro _ _ _ ⟨bs, rfl, rfl, rfl⟩
    refine ⟨by (repeat (first | exact trivial | refine And.intro (pend_q rfl rfl rfl (qt_pev tok rfl)) ?_ | refine And.intro (pend_q rfl rfl rfl (ql tok rfl)) ?_ | refine And.intro (pend_q rfl rfl rfl ((qt_quo rfl rfl (fun _ => by decide)).as e6)) ?_ | refine And.intro (pend_q rfl rfl rfl (qt_callF rfl (fun _ => ih (v / 256) (by omega) (by omega) _))) ?_)), ?_⟩
    refine prn_q rfl (qt_bytesStr tok [((v % 256 : Nat) : Int)] rfl rfl rfl rfl (cellsAll List.mem_cons_self) rfl) (by decide +kernel) rfl rfl rfl ?_
    refine prn_q rfl (qt_concat rfl rfl (by rw [bytesI_one]; omega)) (by decide +kernel) rfl rfl rfl ?_
    repeat (first | refine zz ?_ | refine zx fun _ => ?_ | refine dd ?_ | refine dz ?_ | refine dx fun _ => ?_)
    exact run_ret hC (rs := [.tmp 2]) rfl (resT rfl resN) (fun _ h => h.drop) ⟨by rw [hd]; rfl, rfl, rfl⟩
set_option maxRecDepth 10000 in
set_option maxHeartbeats 4000000 in
theorem num_ok (M : Mem) (L : HL) (v : Nat) (hv : v < 18446744073709551616) : TrQ Tryz.prog 189 [.int .u64 (v : Int)] M L (.string (numB v)) := by
  have hlen := digN_len hv
  refine Tr.intro 20 Tryz.func189 rfl rfl Tryz.call189 rfl ?_; intro C hC hro
  repeat (first | refine zz ?_ | refine zx fun _ => ?_)
  refine run_cond rfl (fun h => ?_) (fun h => ?_)
  · have h0 : v < 248 := by simp at h; omega
    repeat (first | refine zz ?_ | refine zx fun _ => ?_ | refine runL_q (qt_bytesStr tok [IntKind.u8.wrap (v : Int)] rfl rfl rfl rfl (cellsAll List.mem_cons_self) rfl) rfl rfl rfl ?_)
    exact run_ret hC (rs := [.tmp 2]) rfl (resT rfl resN) (fun _ h => h.drop) ⟨by rw [numB, if_pos h0]; rfl, rfl, rfl⟩
  · have h0 : ¬ v < 248 := by simp at h; omega
    repeat (first | refine zz ?_ | refine zx fun _ => ?_ | refine runL_q (qt_callF rfl (fun _ => digits_ok _ v hv _)) rfl rfl rfl ?_ | refine runL_q (qt_bytesStr tok [IntKind.u8.wrap (IntKind.i64.wrap (247 + ((digN v).size : Int)))] rfl rfl rfl rfl (cellsAll List.mem_cons_self) rfl) rfl rfl rfl ?_ | refine runL_q (qt_concat rfl rfl (by rw [bytesI_one]; omega)) rfl rfl rfl ?_)
    exact run_ret hC (rs := [.tmp 2]) rfl (resT rfl resN) (fun _ h => h.drop) ⟨by rw [numB, if_neg h0]; rfl, rfl, rfl⟩
end Go.Proofs.YtladcmfbkiogbaaGreatDoor
namespace Go.Proofs.YtladcmfbkiogbaaGreatDoor
open Go.Chi
set_option maxRecDepth 10000
set_option maxRecDepth 10000 in
set_option maxHeartbeats 8000000 in
theorem refNum_ok (M : Mem) (L : HL) (s : ByteArray) : TrQ Tryz.prog 219 [.string s] M L (.tuple ⟨[.int .u64 (refNum s).1, .int .i64 (refNum s).2.1, .int .i64 (refNum s).2.2]⟩) := by
  refine Tr.intro 45 Tryz.func219 rfl rfl Tryz.call219 rfl ?_; intro C hC hro
  repeat (first | refine zz ?_ | refine zx fun _ => ?_)
  refine run_cond rfl (fun h => ?_) (fun h => ?_)
  · repeat (first | refine zz ?_ | refine zx fun _ => ?_)
    exact run_ret hC (rs := [.tmp 2, .tmp 3, .tmp 4]) rfl (resT rfl (resT rfl (resT rfl resN))) (fun _ h => h) ⟨by rw [empty_beq, decide_eq_true_eq] at h; rw [refNum, if_pos h]; rfl, rfl, rfl⟩
  rw [empty_beq, decide_eq_false_iff_not] at h
  have hs : 0 < s.size := by omega
  obtain ⟨b0, hb0, hb0'⟩ := byte_at hs
  repeat (first | refine zz ?_ | refine zx fun _ => ?_ | refine runL_q (qt_strIndex (n := 0) tok rfl rfl rfl (fun _ => hb0)) rfl rfl rfl ?_)
  refine run_cond rfl (fun h1 => ?_) (fun h1 => ?_)
  · have h2 : byte s 0 < 248 := by rw [hb0']; simpa using h1
    repeat (first | refine zz ?_ | refine zx fun _ => ?_ | refine runL_q (qt_strIndex (n := 0) tok rfl rfl rfl (fun _ => hb0)) rfl rfl rfl ?_)
    refine run_ret hC (rs := [.tmp 2, .tmp 3, .tmp 4]) rfl (resT rfl (resT rfl (resT rfl resN))) (fun _ h => h) ⟨?_, rfl, rfl⟩
    rw [refNum, if_neg h, if_pos h2, hb0', u64_byte]
    rfl
  have h2 : ¬ byte s 0 < 248 := by rw [hb0']; simpa using h1
  have hlt := b0.toNat_lt
  obtain ⟨k, hk⟩ : ∃ k : Nat, k = b0.toNat - 247 := ⟨_, rfl⟩
  have hk1 : refK s = k := by unfold refK; rw [hb0']; omega
  have hkv : IntKind.i64.wrap (IntKind.i64.wrap (1 + IntKind.i64.wrap (b0.toNat : Int)) - 247) = ((k + 1 : Nat) : Int) := by
    rw [wrap64_nat (by omega), show (1 : Int) + (b0.toNat : Int) = ((1 + b0.toNat : Nat) : Int) by omega, wrap64_nat (by omega), show ((1 + b0.toNat : Nat) : Int) - 247 = ((k + 1 : Nat) : Int) by omega, wrap64_nat (by omega)]
  repeat (first | refine zz ?_ | refine zx fun _ => ?_ | refine runL_q (qt_strIndex (n := 0) tok rfl rfl rfl (fun _ => hb0)) rfl rfl rfl ?_)
  refine run_cond rfl (fun h3 => ?_) (fun h3 => ?_)
  · rw [hkv] at h3
    have h4 : s.size < refK s + 1 := by rw [hk1]; simp at h3; omega
    repeat (first | refine zz ?_ | refine zx fun _ => ?_)
    refine run_ret hC (rs := [.tmp 2, .tmp 3, .tmp 4]) rfl (resT rfl (resT rfl (resT rfl resN))) (fun _ h => h) ⟨?_, rfl, rfl⟩
    rw [refNum, if_neg h, if_neg h2, if_pos h4]
    rfl
  rw [hkv] at h3
  have h4 : ¬ s.size < refK s + 1 := by rw [hk1]; simp at h3; omega
  rw [hk1] at h4
  refine run_as 5 (.int .i64 ((k + 1 : Nat) : Int)) rfl (by rw [hkv]) ?_
  repeat (first | refine zz ?_ | refine zx fun _ => ?_)
  refine run_loopN (fun i σ1 M1 L1 => i ≤ k ∧ σ1 = [(7, .int .i64 ((i + 1 : Nat) : Int)), (6, .int .u64 (refV s i)), (5, .int .i64 ((k + 1 : Nat) : Int)), (0, .string s)] ∧ M = M1 ∧ L = L1) k [(7, .int .i64 ((0 + 1 : Nat) : Int)), (6, .int .u64 0), (5, .int .i64 ((k + 1 : Nat) : Int)), (0, .string s)] ?_ ⟨Nat.zero_le _, rfl, rfl, rfl⟩ (fun j _ _ _ h => h.1) ?_
  · exact ⟨rfl, rfl, rfl, rfl, trivial⟩
  rintro i _ _ _ ⟨hi, rfl, rfl, rfl⟩ hnext
  repeat (first | refine zz ?_ | refine zx fun _ => ?_)
  refine run_cond rfl (fun h5 => ?_) (fun h5 => ?_)
  · have hik : i < k := by simp at h5; omega
    obtain ⟨b, hb, hb'⟩ := byte_at (s := s) (i := i + 1) (by omega)
    repeat (first | refine zz ?_ | refine zx fun _ => ?_ | refine runL_q (qt_strIndex (n := i + 1) tok rfl rfl rfl (fun _ => hb)) rfl rfl rfl ?_)
    exact run_sub' (hnext _ _ _ ⟨hik, rfl, rfl, rfl⟩) ⟨lk_succ rfl (by omega), by rw [refV, hb']; rfl, rfl, rfl, trivial⟩
  · have hik : i = k := by simp at h5; omega
    subst hik
    have hvp := refV_pos s i
    obtain ⟨v, hv⟩ : ∃ v : Nat, refV s i = v := ⟨(refV s i).toNat, by omega⟩
    refine run_as 6 (.int .u64 (v : Int)) rfl (by rw [hv]) ?_
    repeat (first | refine zz ?_ | refine zx fun _ => ?_ | refine dd ?_ | refine dz ?_ | refine dx fun _ => ?_ | refine prn_q rfl (qt_callF rfl (fun _ => num_ok _ _ v (by omega))) (by decide +kernel) rfl rfl rfl ?_ | refine prn_q rfl (qt_strHi (n := i + 1) tok rfl rfl rfl (fun _ => by omega)) (by decide +kernel) rfl rfl rfl ?_)
    refine run_cond rfl (fun h6 => ?_) (fun h6 => ?_)
    · repeat (first | refine zz ?_ | refine zx fun _ => ?_)
      refine run_ret hC (rs := [.tmp 2, .tmp 3, .tmp 4]) rfl (resT rfl (resT rfl (resT rfl resN))) (fun _ h => h) ⟨?_, rfl, rfl⟩
      have h7 : numB (refV s (refK s)).toNat ≠ s.extract 0 (refK s + 1) := by rw [hk1, hv, Int.toNat_natCast]; rw [bytes_beq] at h6; simpa using h6
      rw [refNum, if_neg h, if_neg h2, if_neg (by rw [hk1]; exact h4), if_pos h7]
      rfl
    · repeat (first | refine zz ?_ | refine zx fun _ => ?_)
      refine run_ret hC (rs := [.tmp 2, .tmp 3, .tmp 4]) rfl (resT rfl (resT rfl (resT rfl resN))) (fun _ h => h) ⟨?_, rfl, rfl⟩
      have h7 : ¬ numB (refV s (refK s)).toNat ≠ s.extract 0 (refK s + 1) := by rw [hk1, hv, Int.toNat_natCast]; rw [bytes_beq] at h6; simpa using h6
      rw [refNum, if_neg h, if_neg h2, if_neg (by rw [hk1]; exact h4), if_neg h7, hk1, hv]
      rfl
set_option maxRecDepth 10000 in
set_option maxHeartbeats 8000000 in
theorem refText_ok (M : Mem) (L : HL) (s : ByteArray) (most : Nat) (hs : s.size < 4611686018427387904) (hm : most < 4611686018427387904) : TrQ Tryz.prog 190 [.string s, .int .i64 (most : Int)] M L (.tuple ⟨[.string (refText s most).1, .int .i64 (refText s most).2.1, .int .i64 (refText s most).2.2]⟩) := by
  refine Tr.intro 53 Tryz.func190 rfl rfl Tryz.call190 rfl ?_; intro C hC hro
  repeat (first | refine zz ?_ | refine zx fun _ => ?_ | refine runL_q (qt_callF rfl (fun _ => refNum_ok _ _ s)) rfl rfl rfl ?_)
  refine run_cond rfl (fun h => ?_) (fun h => ?_)
  · have h0 : (refNum s).2.2 ≠ 0 := by simpa using h
    repeat (first | refine zz ?_ | refine zx fun _ => ?_)
    exact run_ret hC (rs := [.tmp 4, .tmp 5, .tmp 6]) rfl (resT rfl (resT rfl (resT rfl resN))) (fun _ h => h) ⟨by rw [refText, if_pos h0]; rfl, rfl, rfl⟩
  have h0 : (refNum s).2.2 = 0 := by simpa using h
  have himp := refNum_imp h0
  obtain ⟨n, hn, hn1, hn2⟩ := numR_len s (by rw [himp]; exact h0)
  have hv0 := numR_pos s
  rw [himp] at hn hv0
  have e1 : IntKind.u64.wrap (most : Int) = (most : Int) := u64_nat (by omega)
  repeat (first | refine zz ?_ | refine zx fun _ => ?_)
  refine run_cond rfl (fun h1 => ?_) (fun h1 => ?_)
  · rw [e1] at h1
    have h2 : (most : Int) < (refNum s).1 := by
      simp at h1
      omega
    repeat (first | refine zz ?_ | refine zx fun _ => ?_)
    exact run_ret hC (rs := [.tmp 4, .tmp 5, .tmp 6]) rfl (resT rfl (resT rfl (resT rfl resN))) (fun _ h => h) ⟨by rw [refText, if_neg (by simp [h0]), if_pos h2]; rfl, rfl, rfl⟩
  rw [e1] at h1
  have h2 : ¬ (most : Int) < (refNum s).1 := by
    simp at h1
    omega
  have e2 : IntKind.u64.wrap (IntKind.i64.wrap ((s.size : Int) - (refNum s).2.1)) = (s.size : Int) - (refNum s).2.1 := by
    rw [hn, show (s.size : Int) - (n : Int) = ((s.size - n : Nat) : Int) by omega, wrap64_nat (by omega), u64_nat (by omega)]
  obtain ⟨v, hv⟩ : ∃ v : Nat, (refNum s).1 = v := ⟨(refNum s).1.toNat, by omega⟩
  repeat (first | refine zz ?_ | refine zx fun _ => ?_)
  refine run_cond rfl (fun h3 => ?_) (fun h3 => ?_)
  · have h4 : (s.size : Int) - (refNum s).2.1 < (refNum s).1 := by
      have := of_decide_eq_true h3
      rwa [e2] at this
    repeat (first | refine zz ?_ | refine zx fun _ => ?_)
    exact run_ret hC (rs := [.tmp 4, .tmp 5, .tmp 6]) rfl (resT rfl (resT rfl (resT rfl resN))) (fun _ h => h) ⟨by rw [refText, if_neg (by simp [h0]), if_neg h2, if_pos h4]; rfl, rfl, rfl⟩
  have h4 : ¬ (s.size : Int) - (refNum s).2.1 < (refNum s).1 := by
    have := of_decide_eq_false h3
    rwa [e2] at this
  refine run_as 8 (.int .i64 (n : Int)) rfl (by rw [hn]) ?_
  refine run_as 7 (.int .u64 (v : Int)) rfl (by rw [hv]) ?_
  have e3 : IntKind.i64.wrap ((n : Int) + IntKind.i64.wrap (v : Int)) = ((n + v : Nat) : Int) := by
    rw [wrap64_nat (by omega), show (n : Int) + (v : Int) = ((n + v : Nat) : Int) by omega, wrap64_nat (by omega)]
  repeat (first | refine zz ?_ | refine zx fun _ => ?_)
  refine runL_as 47 (.int .i64 ((n + v : Nat) : Int)) rfl (by rw [e3]) ?_
  repeat (first | refine zz ?_ | refine zx fun _ => ?_ | refine runL_q (qt_strMid tok rfl rfl rfl rfl (fun _ => ⟨by omega, by omega⟩)) rfl rfl rfl ?_)
  refine run_ret hC (rs := [.tmp 4, .tmp 5, .tmp 6]) rfl (resT rfl (resT rfl (resT rfl resN))) (fun _ h => h) ⟨?_, rfl, rfl⟩
  rw [refText, if_neg (by simp [h0]), if_neg h2, if_neg h4, e3, hn, hv, show ((n : Int) + (v : Int)).toNat = n + v by omega, Int.toNat_natCast, show (n : Int) + (v : Int) = ((n + v : Nat) : Int) by omega]
  rfl
end Go.Proofs.YtladcmfbkiogbaaGreatDoor
namespace Go.Proofs.YtladcmfbkiogbaaGreatDoor
open Go.Chi
set_option maxRecDepth 10000
set_option maxRecDepth 10000 in
set_option maxHeartbeats 4000000 in
theorem name_ok (M : Mem) (L : HL) (s : ByteArray) (hs : s.size < 4611686018427387904) : TrQ Tryz.prog 237 [.string s] M L (.bool (nameR s)) := by
  refine Tr.intro 43 Tryz.func237 rfl rfl Tryz.call237 rfl ?_; intro C hC hro
  repeat (first | refine zz ?_ | refine zx fun _ => ?_)
  refine run_loopN (fun i σ1 M1 L1 => i ≤ s.size ∧ ((List.range i).all fun i => nameB (byte s i)) = true ∧ σ1 = [(3, .int .i64 (i : Int)), (0, .string s)] ∧ M = M1 ∧ L = L1) s.size [(3, .int .i64 ((0 : Nat) : Int)), (0, .string s)] ?_ ⟨Nat.zero_le _, rfl, rfl, rfl, rfl⟩ (fun j _ _ _ h => h.1) ?_
  · exact ⟨rfl, rfl, trivial⟩
  rintro i _ _ _ ⟨hi, hall, rfl, rfl, rfl⟩ hnext
  repeat (first | refine zz ?_ | refine zx fun _ => ?_)
  refine run_cond rfl (fun h => ?_) (fun h => ?_)
  · have hlt : i < s.size := by simpa using h
    obtain ⟨b, hb, hb'⟩ := byte_at hlt
    repeat (first | refine zz ?_ | refine zx fun _ => ?_ | refine runL_q (qt_strIndex tok rfl rfl rfl (fun _ => hb)) rfl rfl rfl ?_)
    refine run_cond rfl (fun h2 => ?_) (fun h2 => ?_)
    · have h3 : nameB (byte s i) = false := by
        rw [hb']
        have h2' : (!nameB (b.toNat : Int)) = true := h2
        simpa using h2'
      repeat (first | refine zz ?_ | refine zx fun _ => ?_)
      refine run_ret hC (rs := [.tmp 2]) rfl (resT rfl resN) (fun _ h => h) ⟨?_, rfl, rfl⟩
      have : ((List.range s.size).all fun i => nameB (byte s i)) = false := by
        rw [List.all_eq_false]
        exact ⟨i, List.mem_range.2 hlt, by simp [h3]⟩
      rw [nameR, this]; rfl
    · have h3 : nameB (byte s i) = true := by
        rw [hb']
        have h2' : (!nameB (b.toNat : Int)) = false := h2
        simpa using h2'
      repeat (first | refine zz ?_ | refine zx fun _ => ?_)
      exact run_sub' (hnext _ _ _ ⟨hlt, by rw [List.range_succ, List.all_append, hall]; simp [h3], rfl, rfl, rfl⟩) ⟨lk_succ rfl (by omega), rfl, trivial⟩
  · have hge : i = s.size := by simp at h; omega
    subst hge
    repeat (first | refine zz ?_ | refine zx fun _ => ?_)
    refine run_ret hC (rs := [.tmp 2]) rfl (resT rfl resN) (fun _ h => h) ⟨?_, rfl, rfl⟩
    rw [nameR, hall, empty_beq]
    by_cases h0 : s.size = 0
    · simp [h0]; rfl
    · simp [h0]; rfl
theorem refText_size (s : ByteArray) (most : Nat) : (refText s most).1.size ≤ s.size := by
  unfold refText
  repeat' split
  all_goals first | exact Nat.zero_le _ | (simp; omega)
set_option maxRecDepth 10000 in
set_option maxHeartbeats 8000000 in
theorem head_ok (M : Mem) (L : HL) (s : ByteArray) (hs : s.size < 4611686018427387904) : TrQ Tryz.prog 221 [.string s] M L (.tuple ⟨[.int .i64 (headR s).1, .int .i64 (headR s).2.1, .int .i64 (headR s).2.2]⟩) := by
  refine Tr.intro 76 Tryz.func221 rfl rfl Tryz.call221 rfl ?_; intro C hC hro
  repeat (first | refine zz ?_ | refine zx fun _ => ?_)
  refine run_cond rfl (fun h => ?_) (fun h => ?_)
  · repeat (first | refine zz ?_ | refine zx fun _ => ?_)
    have h0 : s.size = 0 := by have := eq_of_beq h; omega
    exact run_ret hC (rs := [.tmp 2, .tmp 3, .tmp 4]) rfl (resT rfl (resT rfl (resT rfl resN))) (fun _ h => h) ⟨by rw [headR, if_pos h0]; rfl, rfl, rfl⟩
  have h : ¬ s.size = 0 := by intro e; rw [e] at h; cases h
  have hp : 0 < s.size := by omega
  obtain ⟨b0, hb0, hb0'⟩ := byte_at hp
  have hr : (rest1 s).size < 4611686018427387904 := by rw [rest1_size]; omega
  repeat (first | refine zz ?_ | refine zx fun _ => ?_ | refine runL_q (qt_strIndex (n := 0) tok rfl rfl rfl (fun _ => hb0)) rfl rfl rfl ?_)
  refine run_cond rfl (fun h1 => ?_) (fun h1 => ?_)
  · have hb1 : byte s 0 = 100 := byte_eq hb0' h1
    repeat (first | refine zz ?_ | refine zx fun _ => ?_ | refine runL_q (qt_strLo (n := 1) tok rfl rfl rfl (fun _ => hp)) rfl rfl rfl ?_ | refine runL_q (qt_callF rfl (fun _ => refText_ok _ _ (rest1 s) 1024 hr (by decide))) rfl rfl rfl ?_)
    exact run_ret hC (rs := [.tmp 2, .tmp 3, .tmp 4]) rfl (resT rfl (resT rfl (resT rfl resN))) (fun _ h => h) ⟨by rw [headR, if_neg h, if_pos hb1]; rfl, rfl, rfl⟩
  have hb1 : byte s 0 ≠ 100 := byte_eq hb0' h1
  repeat (first | refine zz ?_ | refine zx fun _ => ?_)
  refine run_cond rfl (fun h1 => ?_) (fun h1 => ?_)
  · have hb2 : byte s 0 = 97 := byte_eq hb0' h1
    have hts := refText_size (rest1 s) 32
    repeat (first | refine zz ?_ | refine zx fun _ => ?_ | refine runL_q (qt_strLo (n := 1) tok rfl rfl rfl (fun _ => hp)) rfl rfl rfl ?_ | refine runL_q (qt_callF rfl (fun _ => refText_ok _ _ (rest1 s) 32 hr (by decide))) rfl rfl rfl ?_ | refine runL_g rfl rfl (qt_callF rfl (fun _ => name_ok _ _ _ (by omega))) rfl rfl rfl rfl rfl ?_)
    refine run_cond rfl (fun h3 => ?_) (fun h3 => ?_)
    · have h4 : (refText (rest1 s) 32).2.2 = 0 ∧ nameR (refText (rest1 s) 32).1 = false := by simpa using h3
      repeat (first | refine zz ?_ | refine zx fun _ => ?_)
      exact run_ret hC (rs := [.tmp 2, .tmp 3, .tmp 4]) rfl (resT rfl (resT rfl (resT rfl resN))) (fun _ h => h) ⟨by rw [headR, if_neg h, if_neg hb1, if_pos hb2, if_pos h4]; rfl, rfl, rfl⟩
    · have h4 : ¬ ((refText (rest1 s) 32).2.2 = 0 ∧ nameR (refText (rest1 s) 32).1 = false) := by simpa using h3
      repeat (first | refine zz ?_ | refine zx fun _ => ?_)
      exact run_ret hC (rs := [.tmp 2, .tmp 3, .tmp 4]) rfl (resT rfl (resT rfl (resT rfl resN))) (fun _ h => h) ⟨by rw [headR, if_neg h, if_neg hb1, if_pos hb2, if_neg h4]; rfl, rfl, rfl⟩
  have hb2 : byte s 0 ≠ 97 := byte_eq hb0' h1
  repeat (first | refine zz ?_ | refine zx fun _ => ?_)
  refine run_cond rfl (fun h1 => ?_) (fun h1 => ?_)
  · have hb3 : byte s 0 = 114 := byte_eq hb0' h1
    repeat (first | refine zz ?_ | refine zx fun _ => ?_ | refine runL_q (qt_strLo (n := 1) tok rfl rfl rfl (fun _ => hp)) rfl rfl rfl ?_ | refine runL_q (qt_callF rfl (fun _ => refNum_ok _ _ (rest1 s))) rfl rfl rfl ?_)
    refine run_cond rfl (fun h3 => ?_) (fun h3 => ?_)
    · have h4 : (refNum (rest1 s)).2.2 = 0 ∧ 32 < (refNum (rest1 s)).1 := by simpa using h3
      repeat (first | refine zz ?_ | refine zx fun _ => ?_)
      exact run_ret hC (rs := [.tmp 2, .tmp 3, .tmp 4]) rfl (resT rfl (resT rfl (resT rfl resN))) (fun _ h => h) ⟨by rw [headR, if_neg h, if_neg hb1, if_neg hb2, if_pos hb3, if_pos h4]; rfl, rfl, rfl⟩
    · have h4 : ¬ ((refNum (rest1 s)).2.2 = 0 ∧ 32 < (refNum (rest1 s)).1) := by simpa using h3
      repeat (first | refine zz ?_ | refine zx fun _ => ?_)
      exact run_ret hC (rs := [.tmp 2, .tmp 3, .tmp 4]) rfl (resT rfl (resT rfl (resT rfl resN))) (fun _ h => h) ⟨by rw [headR, if_neg h, if_neg hb1, if_neg hb2, if_pos hb3, if_neg h4]; rfl, rfl, rfl⟩
  have hb3 : byte s 0 ≠ 114 := byte_eq hb0' h1
  repeat (first | refine zz ?_ | refine zx fun _ => ?_)
  refine run_cond rfl (fun h1 => ?_) (fun h1 => ?_)
  · have hb4 : byte s 0 = 104 := byte_eq hb0' h1
    repeat (first | refine zz ?_ | refine zx fun _ => ?_)
    exact run_ret hC (rs := [.tmp 2, .tmp 3, .tmp 4]) rfl (resT rfl (resT rfl (resT rfl resN))) (fun _ h => h) ⟨by rw [headR, if_neg h, if_neg hb1, if_neg hb2, if_neg hb3, if_pos hb4]; rfl, rfl, rfl⟩
  have hb4 : byte s 0 ≠ 104 := byte_eq hb0' h1
  repeat (first | refine zz ?_ | refine zx fun _ => ?_)
  refine run_cond rfl (fun h1 => ?_) (fun h1 => ?_)
  · have hb5 : byte s 0 = 109 := byte_eq hb0' h1
    repeat (first | refine zz ?_ | refine zx fun _ => ?_)
    exact run_ret hC (rs := [.tmp 2, .tmp 3, .tmp 4]) rfl (resT rfl (resT rfl (resT rfl resN))) (fun _ h => h) ⟨by rw [headR, if_neg h, if_neg hb1, if_neg hb2, if_neg hb3, if_neg hb4, if_pos hb5]; rfl, rfl, rfl⟩
  have hb5 : byte s 0 ≠ 109 := byte_eq hb0' h1
  repeat (first | refine zz ?_ | refine zx fun _ => ?_)
  refine run_cond rfl (fun h1 => ?_) (fun h1 => ?_)
  · have hb6 : byte s 0 = 115 := byte_eq hb0' h1
    repeat (first | refine zz ?_ | refine zx fun _ => ?_)
    exact run_ret hC (rs := [.tmp 2, .tmp 3, .tmp 4]) rfl (resT rfl (resT rfl (resT rfl resN))) (fun _ h => h) ⟨by rw [headR, if_neg h, if_neg hb1, if_neg hb2, if_neg hb3, if_neg hb4, if_neg hb5, if_pos hb6]; rfl, rfl, rfl⟩
  have hb6 : byte s 0 ≠ 115 := byte_eq hb0' h1
  repeat (first | refine zz ?_ | refine zx fun _ => ?_)
  exact run_ret hC (rs := [.tmp 2, .tmp 3, .tmp 4]) rfl (resT rfl (resT rfl (resT rfl resN))) (fun _ h => h) ⟨by rw [headR, if_neg h, if_neg hb1, if_neg hb2, if_neg hb3, if_neg hb4, if_neg hb5, if_neg hb6]; rfl, rfl, rfl⟩
end Go.Proofs.YtladcmfbkiogbaaGreatDoor
namespace Go.Proofs.YtladcmfbkiogbaaGreatDoor
open Go.Chi
set_option maxRecDepth 10000
theorem refNum_err {s : ByteArray} (h : (refNum s).2.2 ≠ 0) : (refNum s).1 = 0 := by
  unfold refNum at h ⊢
  repeat' split
  all_goals first | rfl | (rename_i h1 h2 h3 h4; simp [h1, h2, h3, h4] at h) | (rename_i h1 h2; simp [h1, h2] at h)
theorem headR_p32 (s : ByteArray) : (headR s).2.1 ≤ 32 := by
  unfold headR
  repeat' split
  all_goals try (simp; done)
  rename_i h1
  simp only
  by_cases he : (refNum (rest1 s)).2.2 = 0
  · have hv0 := numR_pos (rest1 s)
    rw [refNum_imp he] at hv0
    have h5 : ¬ 32 < (refNum (rest1 s)).1 := fun h5 => h1 ⟨he, h5⟩
    obtain ⟨v, hv⟩ : ∃ v : Nat, (refNum (rest1 s)).1 = v := ⟨(refNum (rest1 s)).1.toNat, by omega⟩
    rw [hv, wrap64_nat (by omega)]
    omega
  · rw [refNum_err he]; decide
theorem refRead_imp : ∀ (k : Nat) (s : ByteArray), s.size < 4611686018427387904 → (refRead k s).2 = 0 → ∃ n : Nat, (refRead k s).1 = n ∧ n ≤ s.size ∧ ∀ (w : ByteArray) (a : Nat), a ≤ w.size → w.extract a w.size = s → walkR w k a = .ok (a + n)
  | 0, s, _, h => by cases h
  | k + 1, s, hs, h => by
    rw [refRead] at h ⊢
    have h1 : (headR s).2.2 = 0 := by
      apply Classical.byContradiction
      intro h1
      rw [rloop_err _ _ h1, finR, if_pos h1] at h
      exact h1 h
    obtain ⟨n0, p0, hh, hf⟩ := headR_imp hs h1
    have hfl := frontR_len hf
    rw [hh] at h ⊢
    simp only [Int.toNat_natCast] at h ⊢
    have key : ∀ (i n : Nat), n ≤ s.size → (rloop (refRead k) s i (n : Int) 0).2 = 0 → ∃ m : Nat, (rloop (refRead k) s i (n : Int) 0).1 = m ∧ m ≤ s.size ∧ ∀ (w : ByteArray) (a : Nat), a ≤ w.size → w.extract a w.size = s → iter (walkR w k) i (a + n) = .ok (a + m) := by
      intro i
      induction i with
      | zero => intro n hn _; exact ⟨n, rfl, hn, fun w a _ _ => rfl⟩
      | succ i ih =>
        intro n hn hr
        rw [rloop, if_neg (by simp), Int.toNat_natCast] at hr ⊢
        have he : (refRead k (s.extract n s.size)).2 = 0 := by
          apply Classical.byContradiction
          intro he
          rw [rloop_err _ _ he] at hr
          exact he hr
        have hz : (s.extract n s.size).size = s.size - n := by simp
        obtain ⟨m, hm, hml, hmw⟩ := refRead_imp k (s.extract n s.size) (by omega) he
        rw [he, hm, show (n : Int) + (m : Int) = ((n + m : Nat) : Int) by omega, wrap64_nat (by omega)] at hr ⊢
        obtain ⟨m2, hm2, hm2l, hm2w⟩ := ih (n + m) (by omega) hr
        refine ⟨m2, hm2, hm2l, fun w a ha hw => ?_⟩
        have hws : w.size - a = s.size := by rw [← hw]; simp
        have h5 := hmw w (a + n) (by omega) (by rw [← hw, ext_ext w ha (by omega)])
        rw [iter, h5]
        have h6 := hm2w w a ha hw
        rw [← h6]
        simp only [Nat.add_assoc]
    have h2 : (rloop (refRead k) s p0 (n0 : Int) 0).2 = 0 := by
      apply Classical.byContradiction
      intro h2
      rw [finR, if_pos h2] at h
      exact h2 h
    obtain ⟨m, hm, hml, hmw⟩ := key p0 n0 hfl.2.1 h2
    refine ⟨m, by rw [finR, if_neg (by simp [h2])]; exact hm, hml, fun w a ha hw => ?_⟩
    rw [walkR, hw, hf]
    exact hmw w a ha hw
set_option maxRecDepth 10000 in
set_option maxHeartbeats 8000000 in
theorem refread_ok (M : Mem) (k : Nat) : k ≤ 16 → ∀ (L : HL) (s : ByteArray), s.size < 4611686018427387904 → TrQ Tryz.prog 217 [.string s, .int .i64 ((17 - k : Nat) : Int)] M L (.tuple ⟨[.int .i64 (refRead k s).1, .int .i64 (refRead k s).2]⟩) := by
  induction k with
  | zero =>
    intro _ L s hs
    refine Tr.intro 44 Tryz.func217 rfl rfl Tryz.call217 rfl ?_
    intro C hC hro
    repeat (first | refine zz ?_ | refine zx fun _ => ?_)
    refine run_cond rfl (fun h => ?_) (fun h => by cases h)
    repeat (first | refine zz ?_ | refine zx fun _ => ?_)
    exact run_ret hC (rs := [.tmp 4, .tmp 5]) rfl (resT rfl (resT rfl resN)) (fun _ h => h) ⟨rfl, rfl, rfl⟩
  | succ k ih =>
    intro hk L s hs
    refine Tr.intro 44 Tryz.func217 rfl rfl Tryz.call217 rfl ?_
    intro C hC hro
    repeat (first | refine zz ?_ | refine zx fun _ => ?_)
    refine run_cond rfl (fun h => ?_) (fun h => ?_)
    · exfalso
      have : (16 : Int) < ((17 - (k + 1) : Nat) : Int) := by simpa using h
      omega
    repeat (first | refine zz ?_ | refine zx fun _ => ?_ | refine runL_q (qt_callF rfl (fun _ => head_ok _ _ s hs)) rfl rfl rfl ?_)
    have hdef : refRead (k + 1) s = finR (rloop (refRead k) s (headR s).2.1.toNat (headR s).1 (headR s).2.2) := rfl
    have hini : (headR s).2.2 = 0 → ∃ m : Nat, (headR s).1 = m ∧ m ≤ s.size := fun h1 => by
      obtain ⟨n0, p0, hh, hf⟩ := headR_imp hs h1
      exact ⟨n0, by rw [hh], (frontR_len hf).2.1⟩
    obtain ⟨pt, hpt⟩ : ∃ p : Nat, (headR s).2.1.toNat = p := ⟨_, rfl⟩
    have hpt' : (headR s).2.1 ≤ (pt : Int) := by omega
    have h32 := headR_p32 s
    rw [hpt] at hdef
    generalize (headR s).2.1 = Z at *
    generalize (headR s).2.2 = e0 at *
    generalize (headR s).1 = n0 at *
    refine run_loopN (fun i σ1 M1 L1 => i ≤ pt ∧ ∃ n e : Int, (e = 0 → ∃ m : Nat, n = m ∧ m ≤ s.size) ∧ rloop (refRead k) s (pt - i) n e = rloop (refRead k) s pt n0 e0 ∧ σ1 = [(0, .string s), (1, .int .i64 ((17 - (k + 1) : Nat) : Int)), (6, .int .i64 n), (7, .int .i64 Z), (8, .int .i64 e), (9, .int .i64 (i : Int))] ∧ M = M1 ∧ L = L1) pt [(0, .string s), (1, .int .i64 ((17 - (k + 1) : Nat) : Int)), (6, .int .i64 n0), (7, .int .i64 Z), (8, .int .i64 e0), (9, .int .i64 ((0 : Nat) : Int))] ?_ ⟨Nat.zero_le _, n0, e0, hini, rfl, rfl, rfl, rfl⟩ (fun j _ _ _ h => h.1) ?_
    · exact ⟨rfl, rfl, rfl, rfl, rfl, rfl, trivial⟩
    rintro i _ _ _ ⟨hi, n, e, hne, hit, rfl, rfl, rfl⟩ hnext
    have hfin : ∀ σ' : Env, (i = pt ∨ e ≠ 0) → lks σ' 6 = some (.int .i64 n) → lks σ' 8 = some (.int .i64 e) → rloop (refRead k) s pt n0 e0 = (n, e) := by
      intro σ' h1 _ _
      rw [← hit]
      rcases h1 with h1 | h1
      · rw [h1, Nat.sub_self]; rfl
      · exact rloop_err _ _ h1 _ _
    repeat (first | refine zz ?_ | refine zx fun _ => ?_)
    refine run_cond rfl (fun h5 => ?_) (fun h5 => ?_)
    · have h6 : (i : Int) < Z ∧ e = 0 := by simpa using h5
      obtain ⟨hiz, rfl⟩ := h6
      have hik : i < pt := by omega
      obtain ⟨m, rfl, hm⟩ := hne rfl
      have hz : (s.extract m s.size).size = s.size - m := by simp
      repeat (first | refine zz ?_ | refine zx fun _ => ?_ | refine runL_q (qt_strLo (n := m) tok rfl rfl rfl (fun _ => hm)) rfl rfl rfl ?_)
      refine runL_as 33 (.int .i64 ((17 - k : Nat) : Int)) rfl (by rw [wrap64_succ (by omega), show 17 - (k + 1) + 1 = 17 - k by omega]) ?_
      repeat (first | refine zz ?_ | refine zx fun _ => ?_ | refine runL_q (qt_callF rfl (fun _ => ih (by omega) _ (s.extract m s.size) (by omega))) rfl rfl rfl ?_)
      refine run_sub' (hnext _ _ _ ⟨hik, IntKind.i64.wrap ((m : Int) + (refRead k (s.extract m s.size)).1), (refRead k (s.extract m s.size)).2, fun he => ?_, ?_, rfl, rfl, rfl⟩) ⟨rfl, rfl, rfl, rfl, rfl, lk_succ rfl (by omega), trivial⟩
      · obtain ⟨m2, hm2, hm2l, _⟩ := refRead_imp k (s.extract m s.size) (by omega) he
        exact ⟨m + m2, by rw [hm2, show (m : Int) + (m2 : Int) = ((m + m2 : Nat) : Int) by omega, wrap64_nat (by omega)], by omega⟩
      · rw [← hit, show pt - i = (pt - (i + 1)) + 1 by omega, rloop, if_neg (by simp), Int.toNat_natCast]
    · have h6 : i = pt ∨ e ≠ 0 := by
        by_cases he : e = 0
        · left
          subst he
          have : Z ≤ (i : Int) := by simpa using h5
          omega
        · exact .inr he
      have hr := hfin [(6, .int .i64 n), (8, .int .i64 e)] h6 rfl rfl
      repeat (first | refine zz ?_ | refine zx fun _ => ?_)
      refine run_cond rfl (fun h7 => ?_) (fun h7 => ?_)
      · have h8 : e ≠ 0 := by simpa using h7
        repeat (first | refine zz ?_ | refine zx fun _ => ?_)
        exact run_ret hC (rs := [.tmp 4, .tmp 5]) rfl (resT rfl (resT rfl resN)) (fun _ h => h) ⟨by rw [hdef, hr, finR, if_pos h8]; rfl, rfl, rfl⟩
      · have h8 : e = 0 := by simpa using h7
        subst h8
        repeat (first | refine zz ?_ | refine zx fun _ => ?_)
        exact run_ret hC (rs := [.tmp 4, .tmp 5]) rfl (resT rfl (resT rfl resN)) (fun _ h => h) ⟨by rw [hdef, hr, finR, if_neg (by simp)]; rfl, rfl, rfl⟩
def topR (s : ByteArray) : Int × Int := if (refRead 16 s).2 ≠ 0 then (0, (refRead 16 s).2) else if 16384 < (refRead 16 s).1 then (0, 5) else ((refRead 16 s).1, 0)
theorem refRd_ok (M : Mem) (L : HL) (s : ByteArray) (hs : s.size < 4611686018427387904) : TrQ Tryz.prog 188 [.string s] M L (.tuple ⟨[.int .i64 (topR s).1, .int .i64 (topR s).2]⟩) := by
  refine Tr.intro 17 Tryz.func188 rfl rfl Tryz.call188 rfl ?_; intro C hC hro
  repeat (first | refine zz ?_ | refine zx fun _ => ?_ | refine runL_q (qt_callF rfl (fun _ => refread_ok _ 16 (by omega) _ s hs)) rfl rfl rfl ?_)
  refine run_cond rfl (fun h => ?_) (fun h => ?_)
  · have h1 : (refRead 16 s).2 ≠ 0 := by simpa using h
    repeat (first | refine zz ?_ | refine zx fun _ => ?_)
    exact run_ret hC (rs := [.tmp 2, .tmp 3]) rfl (resT rfl (resT rfl resN)) (fun _ h => h) ⟨by rw [topR, if_pos h1]; rfl, rfl, rfl⟩
  have h1 : ¬ (refRead 16 s).2 ≠ 0 := by simpa using h
  repeat (first | refine zz ?_ | refine zx fun _ => ?_)
  refine run_cond rfl (fun h => ?_) (fun h => ?_)
  · have h2 : 16384 < (refRead 16 s).1 := by simpa using h
    repeat (first | refine zz ?_ | refine zx fun _ => ?_)
    exact run_ret hC (rs := [.tmp 2, .tmp 3]) rfl (resT rfl (resT rfl resN)) (fun _ h => h) ⟨by rw [topR, if_neg h1, if_pos h2]; rfl, rfl, rfl⟩
  · have h2 : ¬ 16384 < (refRead 16 s).1 := by simpa using h
    repeat (first | refine zz ?_ | refine zx fun _ => ?_)
    exact run_ret hC (rs := [.tmp 2, .tmp 3]) rfl (resT rfl (resT rfl resN)) (fun _ h => h) ⟨by rw [topR, if_neg h1, if_neg h2]; rfl, rfl, rfl⟩
def refCheck (s : ByteArray) : Int := if (topR s).2 ≠ 0 then (topR s).2 else if (topR s).1 ≠ (s.size : Int) then 7 else 0
theorem refCheck_ok (M : Mem) (L : HL) (s : ByteArray) (hs : s.size < 4611686018427387904) : TrQ Tryz.prog 148 [.string s] M L (.int .i64 (refCheck s)) := by
  refine Tr.intro 17 Tryz.func148 rfl rfl Tryz.call148 rfl ?_; intro C hC hro
  repeat (first | refine zz ?_ | refine zx fun _ => ?_ | refine runL_q (qt_callF rfl (fun _ => refRd_ok _ _ s hs)) rfl rfl rfl ?_)
  refine run_cond rfl (fun h => ?_) (fun h => ?_)
  · have h1 : (topR s).2 ≠ 0 := by simpa using h
    repeat (first | refine zz ?_ | refine zx fun _ => ?_)
    exact run_ret hC (rs := [.tmp 2]) rfl (resT rfl resN) (fun _ h => h) ⟨by rw [refCheck, if_pos h1]; rfl, rfl, rfl⟩
  have h1 : ¬ (topR s).2 ≠ 0 := by simpa using h
  repeat (first | refine zz ?_ | refine zx fun _ => ?_)
  refine run_cond rfl (fun h => ?_) (fun h => ?_)
  · have h2 : (topR s).1 ≠ (s.size : Int) := by simpa using h
    repeat (first | refine zz ?_ | refine zx fun _ => ?_)
    exact run_ret hC (rs := [.tmp 2]) rfl (resT rfl resN) (fun _ h => h) ⟨by rw [refCheck, if_neg h1, if_pos h2]; rfl, rfl, rfl⟩
  · have h2 : ¬ (topR s).1 ≠ (s.size : Int) := by simpa using h
    repeat (first | refine zz ?_ | refine zx fun _ => ?_)
    exact run_ret hC (rs := [.tmp 2]) rfl (resT rfl resN) (fun _ h => h) ⟨by rw [refCheck, if_neg h1, if_neg h2]; rfl, rfl, rfl⟩
end Go.Proofs.YtladcmfbkiogbaaGreatDoor
namespace Go.Proofs.YtladcmfbkiogbaaGreatDoor
open Go.Chi
theorem refCheck_eq (s : ByteArray) (hs : s.size < 4611686018427387904) : refCheck s = checkR s := by
  have h := refRead_eq 16 s 0 hs (Nat.zero_le _)
  rw [ext_all] at h
  unfold refCheck checkR topR
  cases hw : walkR s 16 0 with
  | error e =>
    rw [hw] at h
    simp only at h
    rw [h.1]
    simp [readR, h.2]
  | ok y =>
    rw [hw] at h
    simp only [Nat.sub_zero] at h
    rw [h.1]
    by_cases hy : 16384 < y
    · have hy' : (16384 : Int) < (y : Int) := by omega
      simp [readR, hy, hy']
    · have hy' : ¬ (16384 : Int) < (y : Int) := by omega
      simp only [readR, hy, hy', if_false]
      by_cases e : (y : Int) = (s.size : Int) <;> simp [e]
end Go.Proofs.YtladcmfbkiogbaaGreatDoor
namespace Go.Chi
theorem ldE_at {T : TT} {t : TypeId} {cs : List Value} {off : Nat} {v : Value} (ha : aggT T t = some false) (hv : cs[off]? = some v) : ldE T t cs off = some v := by
  unfold ldE partL
  rw [ha]
  exact hv
section
variable {P : Program} {T : TT} {ro : Option Nat} {σ : Env} {δ : Den} {cur : Path} {M : Mem} {L : HL} {d : Option Nat} {op : Op} {ty : TypeId} {pos : String} {aft : Array Edge} {g : Option (Nat × Bool)} {v : Value}
end
end Go.Chi
namespace Go.Proofs.YtladcmfbkiogbaaGreatDoor
open Go.Chi
set_option maxRecDepth 10000
set_option maxRecDepth 10000
def lookI (r : Int) : Int := (lookO r).getD r
def lookCs : List Int := [945, 1072, 1074, 1089, 1077, 953, 954, 1082, 1084, 951, 1085, 959, 1086, 48, 961, 1088, 964, 1090, 965, 957, 967, 1093, 947, 1091, 49]
theorem look_not {r : Int} (h : r ∉ lookCs) : lookI r = r := by
  have h1 : lookO r = none := by
    simp only [lookCs, List.mem_cons, List.not_mem_nil, or_false, not_or] at h
    simp [lookO, tabL, stepO, o0, h]
  rw [lookI, h1]; rfl
set_option maxHeartbeats 32000000 in
theorem refLook_ok (M : Mem) (L : HL) (r : Int) : TrQ Tryz.prog 100 [.int .i32 r] M L (.int .i32 (lookI r)) := by
  by_cases hm : r ∈ lookCs
  · simp only [lookCs, List.mem_cons, List.not_mem_nil, or_false] at hm
    rcases hm with rfl | rfl | rfl | rfl | rfl | rfl | rfl | rfl | rfl | rfl | rfl | rfl | rfl | rfl | rfl | rfl | rfl | rfl | rfl | rfl | rfl | rfl | rfl | rfl | rfl
    all_goals
      refine Tr.intro 46 Tryz.func100 rfl rfl Tryz.call100 rfl ?_; intro C hC hro
      repeat (first | refine yy ?_ | refine run_cond (t := true) rfl (fun _ => ?_) (fun h => by cases h) | refine run_cond (t := false) rfl (fun h => by cases h) (fun _ => ?_))
      exact run_ret hC (rs := [.tmp 2]) rfl (resT rfl resN) (fun _ h => h) ⟨rfl, rfl, rfl⟩
  · rw [look_not hm]
    simp only [lookCs, List.mem_cons, List.not_mem_nil, or_false, not_or] at hm
    obtain ⟨h1, h2, h3, h4, h5, h6, h7, h8, h9, h10, h11, h12, h13, h14, h15, h16, h17, h18, h19, h20, h21, h22, h23, h24, h25⟩ := hm
    refine Tr.intro 46 Tryz.func100 rfl rfl Tryz.call100 rfl ?_; intro C hC hro
    repeat (first | refine yy ?_ | refine run_cond rfl (fun h => by simp only [beq_iff_eq] at h; contradiction) (fun _ => ?_))
    exact run_ret hC (rs := [.tmp 2]) rfl (resT rfl resN) (fun _ h => h) ⟨rfl, rfl, rfl⟩
end Go.Proofs.YtladcmfbkiogbaaGreatDoor
namespace Go.Proofs.YtladcmfbkiogbaaGreatDoor
open Go.Chi
set_option maxRecDepth 10000
set_option maxRecDepth 10000
def runI (s : ByteArray) : List Int := (runesL s).map fun n : Nat => (n : Int)
theorem look_run (s : ByteArray) : (runI s).map lookI = lookL s := by
  rw [runI, lookL, List.map_map]; rfl
theorem runI_len (s : ByteArray) : (runI s).length ≤ s.size := by
  have := rsF_len s s.size 0 (by omega)
  simp only [runI, runesL, List.length_map]; omega
set_option maxHeartbeats 8000000 in
theorem refRunes_ok (M : Mem) (L : HL) (s : ByteArray) (hs : s.size < 1000000) : Tr Tryz.prog 87 [.string s] M L (fun v M' L' => M = M' ∧ ∃ a c N, v = .slice a (runI s).length c ∧ L' = N ++ L ∧ OS 21 1 (.slice a (runI s).length c) (runI s).length ((runI s).map (Value.int .i32)) N) := by
  have hlen := runI_len s
  refine Tr.intro 16 Tryz.func87 rfl rfl Tryz.call87 rfl ?_; intro C hC hro
  repeat (first | refine yy ?_ | refine yx fun _ => ?_ | (refine runL_op (st_rangeS tok rfl rfl) rfl rfl rfl ?_; rintro _ _ _ ⟨b, rfl, rfl, rfl⟩))
  refine run_loopN (fun i σ1 M2 L1 => i ≤ s.size ∧ M = M2 ∧ ∃ p xs a c N, i ≤ p ∧ xs.length ≤ i ∧ xs ++ ((rsF s p).map Prod.snd).map (fun n : Nat => (n : Int)) = runI s ∧ OS 21 1 (.slice a xs.length c) xs.length (xs.map (Value.int .i32)) N ∧ L1 = N ++ (b, .stringIter s p) :: L ∧ σ1 = [(7, pt b), (3, .slice a xs.length c)]) s.size [(7, pt b), (3, .slice none 0 0)] ?_ ⟨Nat.zero_le _, rfl, 0, [], none, 0, [], Nat.le_refl _, Nat.le_refl _, rfl, .inl ⟨rfl, rfl, rfl, rfl⟩, rfl, rfl⟩ (fun j _ _ _ h => h.1) ?_
  · exact ⟨rfl, rfl, trivial⟩
  rintro i _ _ _ ⟨hi, rfl, p, xs, a, c, N, hip, hxi, hn, hO, rfl, rfl⟩ hnext
  by_cases hlt : p < s.size
  · have hwd := decode_wide s hlt
    rw [rsF_lt hlt, List.map_cons, List.map_cons] at hn
    have hxl : xs.length + 1 ≤ (runI s).length := by rw [← hn]; simp
    repeat (first | refine yy ?_ | refine yx fun _ => ?_ | (refine runL_op (st_nextS rfl (by (repeat (first | with_reducible apply Upd.here | with_reducible apply Upd.there | with_reducible apply Upd.append_left))) hlt) rfl rfl rfl ?_; rintro _ _ _ ⟨rfl, rfl, rfl⟩) | refine run_cond (t := true) rfl (fun _ => ?_) (fun h => by cases h))
    generalize (Utf8.decode s p).1 = r at *
    generalize (Utf8.decode s p).2 = w at *
    (refine ro (st_app1 (n := xs.length) (news := [.int .i32 (r : Int)]) tok rfl rfl rfl rfl rfl rfl rfl rfl hO rfl (by intro u hu; simp at hu; subst hu; rfl) (by omega) (by omega)) ?_; rintro _ _ _ ⟨rfl, N', a', c', rfl, rfl, hO'⟩)
    repeat (first | refine yy ?_ | refine yx fun _ => ?_)
    refine run_sub' (hnext _ _ _ ⟨by omega, rfl, p + w, xs ++ [(r : Int)], a', c', N', by omega, by simp; omega, by simpa using hn, by rw [List.length_append, List.map_append]; exact hO', rfl, rfl⟩) ⟨rfl, by rw [List.length_append]; rfl, trivial⟩
  · rw [rsF_ge hlt, List.map_nil, List.map_nil, List.append_nil] at hn
    repeat (first | refine yy ?_ | refine yx fun _ => ?_ | refine runL_q (qt_nextEnd rfl (by (repeat (first | with_reducible apply List.mem_cons_self | with_reducible assumption | with_reducible apply List.mem_cons_of_mem | with_reducible apply List.mem_append_right))) hlt) rfl rfl rfl ?_ | refine run_cond (t := false) rfl (fun h => by cases h) (fun _ => ?_))
    subst hn
    exact run_ret hC (rs := [.tmp 2]) rfl (resT rfl resN) (fun _ h => (h.perm ((List.perm_middle (l₁ := N)).trans (List.Perm.refl _))).drop) ⟨rfl, a, c, N, rfl, rfl, hO⟩
def rwI (xs : List Int) (j : Nat) (post : List Value) : List Value := ((xs.take j).map lookI ++ xs.drop j).map (Value.int .i32) ++ post
theorem rwI_get {xs : List Int} {j : Nat} {x : Int} (post : List Value) (h : xs[j]? = some x) : (rwI xs j post)[0 + j * 1]? = some (.int .i32 x) := by
  have hl := (List.getElem?_eq_some_iff.1 h).1
  have hd : xs.drop j = x :: xs.drop (j + 1) := by rw [List.drop_eq_getElem_cons hl, (List.getElem?_eq_some_iff.1 h).2]
  rw [rwI, hd, Nat.zero_add, Nat.mul_one, List.map_append, List.append_assoc, List.getElem?_append_right (by simp; omega)]
  simp [Nat.min_eq_left (Nat.le_of_lt hl)]
theorem rwI_set {xs : List Int} {j : Nat} {x : Int} (post : List Value) (h : xs[j]? = some x) : setE (rwI xs j post) (0 + j * 1) (cellsL (.int .i32 (lookI x))) = some (rwI xs (j + 1) post) := by
  have hl := (List.getElem?_eq_some_iff.1 h).1
  have hd : xs.drop j = x :: xs.drop (j + 1) := by rw [List.drop_eq_getElem_cons hl, (List.getElem?_eq_some_iff.1 h).2]
  have e := setE_mid (pre := ((xs.take j).map lookI).map (Value.int .i32)) (x := [Value.int .i32 x]) (x' := [.int .i32 (lookI x)]) (post := (xs.drop (j + 1)).map (Value.int .i32) ++ post) (vs := [.int .i32 (lookI x)]) (j := 0) rfl
  rw [List.length_map, List.length_map, List.length_take, Nat.min_eq_left (Nat.le_of_lt hl)] at e
  rw [rwI, hd, rwI, take_snoc h, Nat.zero_add, Nat.mul_one]
  simp only [List.map_append, List.map_cons, List.map_nil, List.append_assoc, List.cons_append, List.nil_append] at e ⊢
  exact e
set_option maxHeartbeats 8000000 in
theorem refLooks_ok (M : Mem) (L : HL) (s : ByteArray) (hs : s.size < 1000000) : Tr Tryz.prog 57 [.string s] M L (fun v M' L' => M.le M' ∧ L' = L ∧ ∃ a c, v = .slice a (lookL s).length c ∧ SlM M' 1 a (lookL s).length ((lookL s).map iC)) := by
  have hlen := runI_len s
  have hll : (lookL s).length = (runI s).length := by rw [← look_run, List.length_map]
  refine Tr.intro 22 Tryz.func57 rfl rfl Tryz.call57 rfl ?_; intro C hC hro
  repeat (first | refine yy ?_ | refine yx fun _ => ?_ | (refine oc (refRunes_ok _ _ s hs) ?_; rintro _ _ _ ⟨rfl, a, c, N, rfl, rfl, hO⟩))
  rcases hO with ⟨hv, h0, _, rfl⟩ | ⟨b, cap, cs, hv, rfl, hle, hcl, hcs⟩
  · injection hv with e1 e2 e3
    subst e1 e3
    have hnil : lookL s = [] := List.length_eq_zero_iff.1 (by omega)
    rw [h0]
    refine run_loop ?_
    repeat (first | refine yy ?_ | refine yx fun _ => ?_)
    refine run_cond (t := decide ((0 : Int) < ((0 : Nat) : Int))) rfl (fun h => by cases h) (fun _ => ?_)
    repeat (first | refine yy ?_ | refine yx fun _ => ?_)
    exact run_ret hC (rs := [.tmp 2]) rfl (resT rfl resN) (fun _ h => h) ⟨Mem.le_refl _, rfl, none, 0, by rw [hnil]; rfl, by rw [hnil]; exact ⟨rfl, (fun _ h => by cases h), .inl rfl⟩⟩
  · injection hv with e1 e2 e3
    subst e1 e3
    clear e2
    generalize hxs : runI s = xs at *
    obtain ⟨post, hpost⟩ : ∃ post, cs = rwI xs 0 post := ⟨cs.drop xs.length, by
      have := List.take_append_drop xs.length cs
      rw [Nat.mul_one] at hcs
      rw [hcs] at this
      rw [rwI, List.take_zero, List.map_nil, List.nil_append, List.drop_zero, this]⟩
    subst hpost
    refine run_loopN (fun j σ1 M1 L1 => j ≤ xs.length ∧ M = M1 ∧ L1 = (b, .cells ⟨rwI xs j post⟩ 21 (0, 0)) :: L ∧ σ1 = [(4, iv j), (3, .slice (some ⟨b, 0, none⟩) xs.length c)]) xs.length [(4, iv 0), (3, .slice (some ⟨b, 0, none⟩) xs.length c)] ?_ ⟨Nat.zero_le _, rfl, rfl, rfl⟩ (fun j _ _ _ h => h.1) ?_
    · exact ⟨rfl, rfl, trivial⟩
    rintro j _ _ _ ⟨hj, rfl, rfl, rfl⟩ hnext
    repeat (first | refine yy ?_ | refine yx fun _ => ?_)
    refine run_cond (t := decide ((j : Int) < (xs.length : Int))) rfl (fun h => ?_) (fun h => ?_)
    · have hlt : j < xs.length := by have := of_decide_eq_true h; omega
      have hx : xs[j]? = some xs[j] := List.getElem?_eq_getElem hlt
      generalize xs[j] = x at hx
      repeat (first | refine yy ?_ | refine yx fun _ => ?_ | refine vq ?_ (qt_ld tok rfl List.mem_cons_self (ldE_at rfl (rwI_get post hx))) | refine qc (refLook_ok _ _ x) ?_ | refine ws ?_ rfl rfl rfl rfl rfl (Upd.here _ _ _ _) (rwI_set post hx))
      exact run_sub' (hnext _ _ _ ⟨hlt, rfl, rfl, rfl⟩) ⟨lk_succ rfl (by omega), rfl, trivial⟩
    · have hge : j = xs.length := by have := of_decide_eq_false h; omega
      subst hge
      repeat (first | refine yy ?_ | refine yx fun _ => ?_)
      refine run_frzL [_] fun M1 hM1 hb => ?_
      have hrow : rwI xs xs.length post = ((lookL s).map iC).flatten ++ post := by
        rw [rwI, List.take_length, List.drop_length, List.append_nil, ← look_run, hxs]
        congr 1
        generalize xs.map lookI = ys
        induction ys with
        | nil => rfl
        | cons y l ih => rw [List.map_cons, ih]; rfl
      have hb0 := hb _ List.mem_cons_self
      refine run_ret hC (rs := [.tmp 2]) rfl (resT rfl resN) (fun _ h => h) ⟨hM1, rfl, some ⟨b, 0, none⟩, c, by rw [hll]; rfl, by rw [List.length_map], (fun l hl => by obtain ⟨x, _, rfl⟩ := List.mem_map.1 hl; rfl), .inr ⟨b, 0, rfl, fun i c hc => ⟨_, _, _, .inr hb0, fun k v hv => ?_⟩⟩⟩
      have := flat_at (fun l hl => by obtain ⟨x, _, rfl⟩ := List.mem_map.1 hl; rfl) hc hv
      rw [hrow]
      rw [List.getElem?_toArray, Nat.zero_add, List.getElem?_append_left (List.getElem?_eq_some_iff.1 this).1]
      exact this
def cmpK (xs ys : List Int) (v : Value) : Prop := ∃ c : Int, v = .int .i64 c ∧ (c = 0 ↔ xs = ys)
theorem SlC.at_ {M : Mem} {a : Option Addr} {len : Nat} {xs : List Int} (h : SlM M 1 a len (xs.map iC)) {j : Nat} (hj : j < len) : ∃ b off m, a = some ⟨b, off, none⟩ ∧ xs[j]? = some m ∧ Cells M [] b (off + j * 1) (iC m) := by
  obtain ⟨b, off, c, ha, hc, _, hcells⟩ := h.at_ hj
  obtain ⟨m, hm, rfl⟩ : ∃ m, xs[j]? = some m ∧ iC m = c := by simpa using hc
  exact ⟨b, off, m, ha, hm, hcells⟩
set_option maxHeartbeats 8000000 in
theorem refCompare_ok (M : Mem) (L : HL) (xs ys : List Int) (a b : Option Addr) (c d : Nat) (hx : SlM M 1 a xs.length (xs.map iC)) (hy : SlM M 1 b ys.length (ys.map iC)) (h6 : xs.length < 1000000) : Tr Tryz.prog 56 [.slice a xs.length c, .slice b ys.length d] M L (fun v M' L' => M = M' ∧ L' = L ∧ cmpK xs ys v) := by
  refine Tr.intro 46 Tryz.func56 rfl rfl Tryz.call56 rfl ?_; intro C hC hro
  repeat (first | refine yy ?_ | refine yx fun _ => ?_)
  refine run_loopN (fun j σ1 M1 L1 => j ≤ xs.length ∧ M = M1 ∧ L = L1 ∧ j ≤ ys.length ∧ xs.take j = ys.take j ∧ σ1 = [(5, iv j), (0, .slice a xs.length c), (1, .slice b ys.length d)]) xs.length [(5, iv 0), (0, .slice a xs.length c), (1, .slice b ys.length d)] ?_ ⟨Nat.zero_le _, rfl, rfl, Nat.zero_le _, rfl, rfl⟩ (fun j _ _ _ h => h.1) ?_
  · exact ⟨rfl, rfl, rfl, trivial⟩
  rintro j _ _ _ ⟨hj, rfl, rfl, hjy, heq, rfl⟩ hnext
  repeat (first | refine yy ?_ | refine yx fun _ => ?_)
  refine run_cond (t := decide ((j : Int) < (xs.length : Int)) && decide ((j : Int) < (ys.length : Int))) rfl (fun h => ?_) (fun h => ?_)
  · simp only [Bool.and_eq_true, decide_eq_true_eq] at h
    have hlt : j < xs.length := by omega
    have hlt2 : j < ys.length := by omega
    obtain ⟨b1, o1, x, rfl, hx1, hc1⟩ := SlC.at_ hx hlt
    obtain ⟨b2, o2, y, rfl, hy1, hc2⟩ := SlC.at_ hy hlt2
    repeat (first | refine yy ?_ | refine dd ?_ | refine yd ?_ | refine yx fun _ => ?_)
    refine run_cond (t := decide (x < y)) rfl (fun h1 => ?_) (fun h1 => ?_)
    · have hne : x ≠ y := by have := of_decide_eq_true h1; omega
      repeat (first | refine yy ?_ | refine yx fun _ => ?_)
      exact run_ret hC (rs := [.tmp 4]) rfl (resT rfl resN) (fun _ h => h) ⟨rfl, rfl, -1, rfl, by
        constructor
        · intro h; cases h
        · rintro rfl; rw [hx1] at hy1; exact absurd (Option.some.inj hy1) hne⟩
    repeat (first | refine yy ?_ | refine dd ?_ | refine yd ?_ | refine yx fun _ => ?_)
    refine run_cond (t := decide (x > y)) rfl (fun h2 => ?_) (fun h2 => ?_)
    · have hne : x ≠ y := by have := of_decide_eq_true h2; omega
      repeat (first | refine yy ?_ | refine yx fun _ => ?_)
      exact run_ret hC (rs := [.tmp 4]) rfl (resT rfl resN) (fun _ h => h) ⟨rfl, rfl, 1, rfl, by
        constructor
        · intro h; cases h
        · rintro rfl; rw [hx1] at hy1; exact absurd (Option.some.inj hy1) hne⟩
    have hxy : x = y := by have := of_decide_eq_false h1; have := of_decide_eq_false h2; omega
    subst hxy
    repeat (first | refine yy ?_ | refine yx fun _ => ?_)
    exact run_sub' (hnext _ _ _ ⟨hlt, rfl, rfl, hlt2, by rw [take_snoc hx1, take_snoc hy1, heq], rfl⟩) ⟨lk_succ rfl (by omega), rfl, rfl, trivial⟩
  · have hge : j = xs.length ∨ j = ys.length := by
      rw [Bool.and_eq_false_iff] at h
      rcases h with h | h
      · left; have := of_decide_eq_false h; omega
      · right; have := of_decide_eq_false h; omega
    repeat (first | refine yy ?_ | refine yx fun _ => ?_)
    refine run_cond (t := decide ((xs.length : Int) < (ys.length : Int))) rfl (fun h1 => ?_) (fun h1 => ?_)
    · repeat (first | refine yy ?_ | refine yx fun _ => ?_)
      exact run_ret hC (rs := [.tmp 4]) rfl (resT rfl resN) (fun _ h => h) ⟨rfl, rfl, -1, rfl, by
        constructor
        · intro h; cases h
        · rintro rfl; have := of_decide_eq_true h1; omega⟩
    repeat (first | refine yy ?_ | refine yx fun _ => ?_)
    refine run_cond (t := decide ((xs.length : Int) > (ys.length : Int))) rfl (fun h2 => ?_) (fun h2 => ?_)
    · repeat (first | refine yy ?_ | refine yx fun _ => ?_)
      exact run_ret hC (rs := [.tmp 4]) rfl (resT rfl resN) (fun _ h => h) ⟨rfl, rfl, 1, rfl, by
        constructor
        · intro h; cases h
        · rintro rfl; have := of_decide_eq_true h2; omega⟩
    have hl : xs.length = ys.length := by have := of_decide_eq_false h1; have := of_decide_eq_false h2; omega
    have he : xs = ys := by
      rw [List.take_of_length_le (by omega), List.take_of_length_le (by omega)] at heq
      exact heq
    repeat (first | refine yy ?_ | refine yx fun _ => ?_)
    exact run_ret hC (rs := [.tmp 4]) rfl (resT rfl resN) (fun _ h => h) ⟨rfl, rfl, 0, rfl, by simp [he]⟩
end Go.Proofs.YtladcmfbkiogbaaGreatDoor
namespace Go.Proofs.YtladcmfbkiogbaaGreatDoor
open Go.Chi
set_option maxRecDepth 10000
theorem rFlatOne {α : Type} {f : α → List Value} (h : ∀ r, ∀ u ∈ f r, u.oneCell' = true) (l : List α) : ∀ u ∈ (l.map f).flatten, u.oneCell' = true := by
  intro u hu
  obtain ⟨x, hx, hu⟩ := List.mem_flatten.1 hu
  obtain ⟨y, _, rfl⟩ := List.mem_map.1 hx
  exact h y u hu
end Go.Proofs.YtladcmfbkiogbaaGreatDoor
namespace Go.Proofs.YtladcmfbkiogbaaGreatDoor
open Go.Chi Go.Lib
set_option maxRecDepth 10000
def tailT (x : Sp) : ByteArray := if x.do_ = 2 then sp1 ++ (lineE (dataE x.text).1).1 else if x.do_ = 6 then rwB x.list else ⟨#[]⟩
def stepT (x : Sp) : ByteArray := (kW x.do_ ++ fsB x (kO x.do_)) ++ tailT x
def bareP (x : Sp) : Sp := ⟨x.do_, (bareN x).a, (bareN x).b, (bareN x).c, (bareN x).n, if x.do_ = 2 then x.text else ⟨#[]⟩, if x.do_ = 6 then x.list else []⟩
theorem bareP_iff (x : Sp) : x = bareP x ↔ bareS x = true := by
  unfold bareS
  simp only [Bool.and_eq_true, Bool.or_eq_true, decide_eq_true_eq, beq_iff_eq]
  constructor
  · intro h
    have e1 := congrArg Sp.a h
    have e2 := congrArg Sp.b h
    have e3 := congrArg Sp.c h
    have e4 := congrArg Sp.n h
    have e5 := congrArg Sp.text h
    have e6 := congrArg Sp.list h
    simp only [bareP] at e1 e2 e3 e4 e5 e6
    refine ⟨⟨⟨⟨⟨e1.symm, e2.symm⟩, e3.symm⟩, e4.symm⟩, ?_⟩, ?_⟩
    · by_cases h2 : x.do_ = 2
      · exact .inl h2
      · rw [if_neg h2] at e5; exact .inr e5
    · by_cases h2 : x.do_ = 6
      · exact .inl h2
      · rw [if_neg h2] at e6; exact .inr e6
  · rintro ⟨⟨⟨⟨⟨e1, e2⟩, e3⟩, e4⟩, e5⟩, e6⟩
    unfold bareP
    rw [e1, e2, e3, e4]
    refine sp_ext rfl rfl rfl rfl rfl ?_ ?_
    · show x.text = if x.do_ = 2 then x.text else ⟨#[]⟩
      rcases e5 with h | h
      · rw [if_pos h]
      · rw [h]; split <;> rfl
    · show x.list = if x.do_ = 6 then x.list else []
      rcases e6 with h | h
      · rw [if_pos h]
      · rw [h]; split <;> rfl
theorem data_may {s : ByteArray} (h : s.size ≤ 1024) : mayB (dataE s).1 = true := by
  have hz := dataE_sz (s := s)
  refine (mayB_iff (by omega)).2 ⟨?_, hz⟩
  rw [dataE, if_neg (by omega)]
  exact ⟨bytesI [100] ++ textB s, [], Hd.data h, (app_nil _).symm, fun p hp => by cases hp⟩
theorem tail_some {x : Sp} (h : SpP x) : tailV x = some (tailT x) := by
  unfold tailV tailT
  by_cases h2 : x.do_ = 2
  · rw [if_pos h2, if_pos h2, termV, lineE, if_pos (data_may h.text)]; rfl
  rw [if_neg h2, if_neg h2]
  by_cases h6 : x.do_ = 6
  · rw [if_pos h6, if_pos h6]
  · rw [if_neg h6, if_neg h6]
theorem step_some {x : Sp} (h : SpP x) : stepV x = if bareS x = true then some (stepT x) else none := by
  rw [stepV, tail_some h]; rfl
theorem steps_some : ∀ {l : List Sp} (f : Bool), (∀ x ∈ l, SpP x) → stepsW f l = if (∀ x ∈ l, bareS x = true) then some (seqC plusB f (l.map stepT)) else none
  | [], f, _ => by rw [if_pos (fun x hx => by cases hx)]; rfl
  | x :: l, f, h => by
    rw [stepsW, step_some (h x List.mem_cons_self), steps_some false fun y hy => h y (List.mem_cons_of_mem _ hy)]
    by_cases hx : bareS x = true
    · rw [if_pos hx, Option.bind_some]
      by_cases hl : ∀ y ∈ l, bareS y = true
      · rw [if_pos hl, if_pos (fun y hy => by
          rcases List.mem_cons.1 hy with rfl | hy
          · exact hx
          · exact hl y hy)]
        rfl
      · rw [if_neg hl, if_neg (show ¬ ∀ y ∈ x :: l, bareS y = true from fun h => hl fun y hy => h y (List.mem_cons_of_mem _ hy))]; rfl
    · rw [if_neg hx, if_neg (show ¬ ∀ y ∈ x :: l, bareS y = true from fun h => hx (h x List.mem_cons_self))]; rfl
def stepsT (l : List Sp) : ByteArray := if l = [] then wNothing else seqC plusB true (l.map stepT)
theorem stepsV_some {l : List Sp} (h : ∀ x ∈ l, SpP x) : stepsV l = if (∀ x ∈ l, bareS x = true) then some (stepsT l) else none := by
  unfold stepsV stepsT
  by_cases h0 : l = []
  · rw [if_pos h0, if_pos h0, h0, if_pos (fun x hx => by cases hx)]
  · rw [if_neg h0, if_neg h0]; exact steps_some true h
def nameT (names : List ByteArray) (n : Int) : ByteArray := (names[n.toNat]?).getD ⟨#[]⟩
theorem name_some {names : List ByteArray} {n : Int} (h0 : 0 ≤ n) : orgV names n.toNat = if n < (names.length : Int) then some (nameT names n) else none := by
  unfold orgV nameT
  by_cases h : n < (names.length : Int)
  · rw [if_pos h, List.getElem?_eq_getElem (by omega)]; rfl
  · rw [if_neg h, List.getElem?_eq_none (by omega)]
def txnT (names : List ByteArray) (t : Tx) : ByteArray := nameT names t.coord ++ (((slB ++ dgB t.epoch) ++ slB) ++ dgB t.seq)
theorem txn_some {names : List ByteArray} {t : Tx} (h : mayTx t = true) : txnV names t = if t.coord < (names.length : Int) then some (txnT names t) else none := by
  rw [txnV, name_some (txIn h).1]
  split <;> rfl
def giveT (names : List ByteArray) (f : Bool) (m : Mb) : ByteArray := ((if f then colB else semB) ++ nameT names m.org) ++ (sp1 ++ (lineE m.digest).1)
def givesT (names : List ByteArray) : Bool → List Mb → ByteArray
  | _, [] => ⟨#[]⟩
  | f, m :: l => giveT names f m ++ givesT names false l
theorem givesT_snoc (names : List ByteArray) (m : Mb) : ∀ (l : List Mb) (f : Bool), givesT names f (l ++ [m]) = givesT names f l ++ giveT names (f && l.isEmpty) m
  | [], f => by simp [givesT, app_nil, nil_app]
  | x :: l, f => by
    rw [List.cons_append, givesT, givesT_snoc names m l false, givesT, app_assoc]
    simp
theorem gv_term {m : Mb} (h : GvP m) : termV m.digest = some (lineE m.digest).1 := by
  have hm : mayB m.digest = true := by rw [mayB, decide_eq_true_eq]; exact h.2
  rw [termV, lineE, if_pos hm]; rfl
theorem gives_some {names : List ByteArray} : ∀ {l : List Mb} (f : Bool), (∀ m ∈ l, GvP m) → givesV names f l = if (∀ m ∈ l, m.org < (names.length : Int)) then some (givesT names f l) else none
  | [], f, _ => by rw [if_pos (fun x hx => by cases hx)]; rfl
  | m :: l, f, h => by
    have hm := h m List.mem_cons_self
    rw [givesV, name_some (rIn hm.1).1, gv_term hm, gives_some false fun y hy => h y (List.mem_cons_of_mem _ hy)]
    by_cases hx : m.org < (names.length : Int)
    · rw [if_pos hx, Option.bind_some, Option.bind_some]
      by_cases hl : ∀ y ∈ l, y.org < (names.length : Int)
      · rw [if_pos hl, if_pos (fun y hy => by
          rcases List.mem_cons.1 hy with rfl | hy
          · exact hx
          · exact hl y hy)]
        rfl
      · rw [if_neg hl, if_neg (show ¬ ∀ y ∈ m :: l, y.org < (names.length : Int) from fun h => hl fun y hy => h y (List.mem_cons_of_mem _ hy))]; rfl
    · rw [if_neg hx, if_neg (show ¬ ∀ y ∈ m :: l, y.org < (names.length : Int) from fun h => hx (h m List.mem_cons_self))]; rfl
structure MayL (k : Int) (a : Aa) : Prop where
  org : a.do_ ≠ 4 → a.org < k
  aud : a.do_ = 1 → a.auditor < k
  tx : a.do_ = 2 ∨ a.do_ = 9 → a.txn.coord < k
  gives : ∀ m ∈ a.gives, m.org < k
  steps : ∀ x ∈ a.steps, bareS x = true
def verbT (names : List ByteArray) (a : Aa) : ByteArray :=
  if a.do_ = 1 then (vBegins ++ nameT names a.auditor) ++ givesT names true a.gives else if a.do_ = 2 then (if a.yes = true then vYes else vNo) ++ txnT names a.txn else if a.do_ = 3 then vTicks else if a.do_ = 8 then vAnew
  else if a.do_ = 6 then vStops ++ dgB a.n else if a.do_ = 7 then vCrash ++ dgB a.n else if a.do_ = 5 then vGets ++ stepsT a.steps else if a.do_ = 10 then vJudges ++ stepsT a.steps else vShows ++ txnT names a.txn
def lineT (names : List ByteArray) (a : Aa) : ByteArray := if a.do_ = 4 then (wPost ++ dgB a.n) ++ wComes else nameT names a.org ++ verbT names a
theorem aft_some {t : ByteArray} {P : Prop} [Decidable P] {u : ByteArray} : aft t (if P then some u else none) = if P then some (t ++ u) else none := by split <;> rfl
theorem line_told {names : List ByteArray} {a : Aa} (ha : AcP a) : (MayL names.length a → lineV names a = some (lineT names a)) ∧ (¬ MayL names.length a → lineV names a = none) := by
  unfold lineV lineT
  have h0 := ha.fit.org.1
  by_cases h4 : a.do_ = 4
  · rw [if_pos h4, if_pos h4]
    refine ⟨fun _ => rfl, fun h => absurd ?_ h⟩
    cases ha with
    | deliver n hn => exact ⟨fun h => absurd rfl h, (fun h => by cases h), (fun h => by rcases h with h | h <;> cases h), (fun m hm => by cases hm), fun m hm => by cases hm⟩
    | _ => cases h4
  rw [if_neg h4, if_neg h4, name_some h0]
  by_cases ho : a.org < (names.length : Int)
  rotate_left
  · rw [if_neg ho]
    exact ⟨fun h => absurd (h.org h4) ho, fun _ => rfl⟩
  rw [if_pos ho, Option.bind_some]
  suffices hv : (MayL names.length a → verbV names a = some (verbT names a)) ∧ (¬ MayL names.length a → verbV names a = none) by
    exact ⟨fun h => by rw [hv.1 h]; rfl, fun h => by rw [hv.2 h]; rfl⟩
  have hbase : ∀ {P : Prop}, (MayL names.length a ↔ P) → ∀ {o : Option ByteArray} {t : ByteArray}, (P → o = some t) → (¬ P → o = none) → (MayL names.length a → o = some t) ∧ (¬ MayL names.length a → o = none) := by
    intro P hi o t h1 h2
    exact ⟨fun h => h1 (hi.1 h), fun h => h2 fun hp => h (hi.2 hp)⟩
  cases ha with
  | begin_ o au g q1 q2 q3 q4 =>
    rw [show verbV names ⟨1, o, au, 0, g, tz, false, []⟩ = begV names ⟨1, o, au, 0, g, tz, false, []⟩ from rfl, show verbT names ⟨1, o, au, 0, g, tz, false, []⟩ = (vBegins ++ nameT names au) ++ givesT names true g from rfl, begV, name_some (rIn q2).1]
    refine hbase (P := au < (names.length : Int) ∧ ∀ m ∈ g, m.org < (names.length : Int)) ⟨fun h => ⟨h.aud rfl, h.gives⟩, fun h => ⟨fun _ => ho, fun _ => h.1, (fun e => by rcases e with e | e <;> cases e), h.2, fun m hm => by cases hm⟩⟩ (fun h => ?_) (fun h => ?_)
    · rw [if_pos h.1, Option.bind_some]
      show aft _ (givesV names true g) = _
      rw [gives_some true q4, if_pos h.2]; rfl
    · by_cases hau : au < (names.length : Int)
      · rw [if_pos hau, Option.bind_some]
        show aft _ (givesV names true g) = _
        rw [gives_some true q4, if_neg (fun h' => h ⟨hau, h'⟩)]; rfl
      · rw [if_neg hau]; rfl
  | submit o t y q1 q2 =>
    rw [show verbV names ⟨2, o, 0, 0, [], t, y, []⟩ = aft (if y = true then vYes else vNo) (txnV names t) from rfl, show verbT names ⟨2, o, 0, 0, [], t, y, []⟩ = (if y = true then vYes else vNo) ++ txnT names t from rfl, txn_some q2, aft_some]
    exact hbase (P := t.coord < (names.length : Int)) ⟨fun h => h.tx (.inl rfl), fun h => ⟨fun _ => ho, (fun e => by cases e), fun _ => h, (fun m hm => by cases hm), fun m hm => by cases hm⟩⟩ (fun h => if_pos h) (fun h => if_neg h)
  | exprt o t q1 q2 =>
    rw [show verbV names ⟨9, o, 0, 0, [], t, false, []⟩ = aft vShows (txnV names t) from rfl, show verbT names ⟨9, o, 0, 0, [], t, false, []⟩ = vShows ++ txnT names t from rfl, txn_some q2, aft_some]
    exact hbase (P := t.coord < (names.length : Int)) ⟨fun h => h.tx (.inr rfl), fun h => ⟨fun _ => ho, (fun e => by cases e), fun _ => h, (fun m hm => by cases hm), fun m hm => by cases hm⟩⟩ (fun h => if_pos h) (fun h => if_neg h)
  | inject o l q1 q2 q3 =>
    rw [show verbV names ⟨5, o, 0, 0, [], tz, false, l⟩ = aft vGets (stepsV l) from rfl, show verbT names ⟨5, o, 0, 0, [], tz, false, l⟩ = vGets ++ stepsT l from rfl, stepsV_some q3, aft_some]
    exact hbase (P := ∀ x ∈ l, bareS x = true) ⟨fun h => h.steps, fun h => ⟨fun _ => ho, (fun e => by cases e), (fun e => by rcases e with e | e <;> cases e), (fun m hm => by cases hm), h⟩⟩ (fun h => if_pos h) (fun h => if_neg h)
  | present o l q1 q2 q3 =>
    rw [show verbV names ⟨10, o, 0, 0, [], tz, false, l⟩ = aft vJudges (stepsV l) from rfl, show verbT names ⟨10, o, 0, 0, [], tz, false, l⟩ = vJudges ++ stepsT l from rfl, stepsV_some q3, aft_some]
    exact hbase (P := ∀ x ∈ l, bareS x = true) ⟨fun h => h.steps, fun h => ⟨fun _ => ho, (fun e => by cases e), (fun e => by rcases e with e | e <;> cases e), (fun m hm => by cases hm), h⟩⟩ (fun h => if_pos h) (fun h => if_neg h)
  | deliver n q1 => exact absurd rfl h4
  | _ => exact hbase (P := True) ⟨fun _ => trivial, fun _ => ⟨fun _ => ho, (fun e => by cases e), (fun e => by rcases e with e | e <;> cases e), (fun m hm => by cases hm), fun m hm => by cases hm⟩⟩ (fun _ => rfl) (fun h => absurd trivial h)
theorem line_doc (names : List ByteArray) (a : Aa) : (rollB names = true ∧ AcP a ∧ MayL names.length a → lineA names a = (lineT names a, 0)) ∧ (¬ (rollB names = true ∧ AcP a ∧ MayL names.length a) → lineA names a = (⟨#[]⟩, 2)) := by
  unfold lineA
  constructor
  · rintro ⟨h1, h2, h3⟩
    rw [if_pos ⟨h1, (chkS_iff _).2 h2⟩, (line_told h2).1 h3]
  · intro h
    by_cases h1 : rollB names = true ∧ chkS a = 0
    · have h2 := (chkS_iff _).1 h1.2
      rw [if_pos h1, (line_told h2).2 fun h3 => h ⟨h1.1, h2, h3⟩]
    · rw [if_neg h1]
end Go.Proofs.YtladcmfbkiogbaaGreatDoor
namespace Go.Proofs.YtladcmfbkiogbaaGreatDoor
open Go.Chi
set_option maxRecDepth 10000
theorem dmay_ok (M : Mem) (L : HL) (t : ByteArray) (hz : t.size < 4611686018427387904) : TrQ Tryz.prog 116 [.string t] M L (.bool (mayB t)) := by
  have he : (refCheck t == 0) = mayB t := by rw [refCheck_eq t hz]; unfold mayB; rw [Bool.eq_iff_iff]; simp
  refine Tr.intro 6 Tryz.func116 rfl rfl Tryz.call116 rfl ?_; intro C hC hro
  repeat (first | refine zz ?_ | refine zx fun _ => ?_ | refine rq (qt_callF rfl (fun _ => refCheck_ok _ _ t hz)) ?_)
  exact run_ret hC (rs := [.tmp 2]) rfl (resT rfl resN) (fun _ h => h) ⟨by rw [← he]; rfl, rfl, rfl⟩
theorem dkind_ok (M : Mem) (L : HL) (t : ByteArray) (hz : t.size < 4611686018427387904) : TrQ Tryz.prog 150 [.string t] M L (.int .u8 (kindN t)) := by
  refine Tr.intro 18 Tryz.func150 rfl rfl Tryz.call150 rfl ?_; intro C hC hro
  repeat (first | refine zz ?_ | refine zx fun _ => ?_ | refine rq (qt_callF rfl (fun _ => dmay_ok _ _ t hz)) ?_)
  refine run_cond (t := !mayB t) rfl (fun h => ?_) (fun h => ?_)
  · have hf : mayB t = false := by simpa using h
    repeat (first | refine zz ?_ | refine zx fun _ => ?_)
    exact run_ret hC (rs := [.tmp 2]) rfl (resT rfl resN) (fun _ h => h) ⟨by rw [kindN, if_neg (by rw [hf]; decide)]; rfl, rfl, rfl⟩
  have ht : mayB t = true := by simpa using h
  obtain ⟨h1, h2⟩ := (mayB_iff hz).1 ht
  obtain ⟨c, hc1, hc2⟩ := byte_at (i := 0) (show 0 < t.size from h1.pos)
  have hkn : kindN t = kindB (c.toNat : Int) := by rw [kindN, if_pos ht, hc2]
  rw [hkn] at hC
  have hby := h1.byte
  rw [hc2] at hby
  clear hkn hc2
  unfold kindB at hC
  repeat (first | refine zz ?_ | refine zx fun _ => ?_ | refine rq (qt_strIndex (n := 0) (b := c) tok rfl rfl rfl (fun _ => hc1)) ?_)
  refine run_cond (t := (c.toNat : Int) == 100) rfl (fun h => ?_) (fun h => ?_)
  · rw [if_pos (by simpa using h)] at hC
    repeat (first | refine zz ?_ | refine zx fun _ => ?_)
    exact run_ret hC (rs := [.tmp 2]) rfl (resT rfl resN) (fun _ h => h) ⟨rfl, rfl, rfl⟩
  rw [if_neg (by simpa using h)] at hC
  repeat (first | refine zz ?_ | refine zx fun _ => ?_)
  refine run_cond (t := (c.toNat : Int) == 97) rfl (fun h => ?_) (fun h => ?_)
  · rw [if_pos (by simpa using h)] at hC
    repeat (first | refine zz ?_ | refine zx fun _ => ?_)
    exact run_ret hC (rs := [.tmp 2]) rfl (resT rfl resN) (fun _ h => h) ⟨rfl, rfl, rfl⟩
  rw [if_neg (by simpa using h)] at hC
  repeat (first | refine zz ?_ | refine zx fun _ => ?_)
  refine run_cond (t := (c.toNat : Int) == 114) rfl (fun h => ?_) (fun h => ?_)
  · rw [if_pos (by simpa using h)] at hC
    repeat (first | refine zz ?_ | refine zx fun _ => ?_)
    exact run_ret hC (rs := [.tmp 2]) rfl (resT rfl resN) (fun _ h => h) ⟨rfl, rfl, rfl⟩
  rw [if_neg (by simpa using h)] at hC
  repeat (first | refine zz ?_ | refine zx fun _ => ?_)
  refine run_cond (t := (c.toNat : Int) == 104) rfl (fun h => ?_) (fun h => ?_)
  · rw [if_pos (by simpa using h)] at hC
    repeat (first | refine zz ?_ | refine zx fun _ => ?_)
    exact run_ret hC (rs := [.tmp 2]) rfl (resT rfl resN) (fun _ h => h) ⟨rfl, rfl, rfl⟩
  rw [if_neg (by simpa using h)] at hC
  repeat (first | refine zz ?_ | refine zx fun _ => ?_)
  refine run_cond (t := (c.toNat : Int) == 109) rfl (fun h => ?_) (fun h => ?_)
  · rw [if_pos (by simpa using h)] at hC
    repeat (first | refine zz ?_ | refine zx fun _ => ?_)
    exact run_ret hC (rs := [.tmp 2]) rfl (resT rfl resN) (fun _ h => h) ⟨rfl, rfl, rfl⟩
  rw [if_neg (by simpa using h)] at hC
  repeat (first | refine zz ?_ | refine zx fun _ => ?_)
  exact run_ret hC (rs := [.tmp 2]) rfl (resT rfl resN) (fun _ h => h) ⟨rfl, rfl, rfl⟩
theorem dtext_ok (M : Mem) (L : HL) (t : ByteArray) (hz : t.size < 4611686018427387904) : TrQ Tryz.prog 151 [.string t] M L (.tuple ⟨[.string (textN t).1, .bool (textN t).2]⟩) := by
  have hc : mayB t = true → t[0]? = some ((t[0]?).getD 0) := fun hm => by
    obtain ⟨c, h1, _⟩ := byte_at (i := 0) (show 0 < t.size from ((mayB_iff hz).1 hm).1.pos)
    rw [h1]; rfl
  have hb : byte t 0 = (((t[0]?).getD 0).toNat : Int) := rfl
  generalize (t[0]?).getD 0 = c at hc hb
  refine Tr.intro 28 Tryz.func151 rfl rfl Tryz.call151 rfl ?_; intro C hC hro
  repeat (first | refine zz ?_ | refine zx fun _ => ?_ | refine rq (qt_callF rfl (fun _ => dmay_ok _ _ t hz)) ?_ | refine rg rfl rfl (qt_strIndex (n := 0) (b := c) tok rfl rfl rfl (fun hy => hc (by have h1 : (!mayB t) = false := hy.1; simpa using h1))) ?_ | refine rg rfl rfl (qt_strIndex (n := 0) (b := c) tok rfl rfl rfl (fun hy => hc (by have h1 : (!mayB t) = false := hy.2.1; simpa using h1))) ?_)
  refine run_cond (t := (!mayB t) || (((c.toNat : Int) != 100) && ((c.toNat : Int) != 97))) rfl (fun h => ?_) (fun h => ?_)
  · have hn : textN t = (⟨#[]⟩, false) := by
      unfold textN
      rw [if_neg]
      rintro ⟨h1, h2⟩
      rw [hb] at h2
      rw [h1] at h
      simp only [Bool.not_true, Bool.false_or, Bool.and_eq_true, bne_iff_ne] at h
      omega
    repeat (first | refine zz ?_ | refine zx fun _ => ?_)
    exact run_ret hC (rs := [.tmp 2, .tmp 3]) rfl (resT rfl (resT rfl resN)) (fun _ h => h) ⟨by rw [hn]; rfl, rfl, rfl⟩
  have hm : mayB t = true := by
    cases hm : mayB t with
    | true => rfl
    | false => rw [hm] at h; simp at h
  have hp := ((mayB_iff hz).1 hm).1.pos
  have hn : textN t = ((textR (rest1 t) 1024).1, true) := by
    unfold textN
    rw [if_pos]
    refine ⟨hm, ?_⟩
    rw [hb]
    rw [hm] at h
    simp only [Bool.not_true, Bool.false_or, Bool.and_eq_false_iff, bne_eq_false_iff_eq] at h
    exact h
  have hte := refText_ok M L (rest1 t) 1024 (by rw [rest1_size]; omega) (by decide)
  rw [refText_eq] at hte
  repeat (first | refine zz ?_ | refine zx fun _ => ?_ | refine rq (qt_strLo (n := 1) tok rfl rfl rfl (fun _ => hp)) ?_ | refine rq (qt_callF rfl (fun _ => hte)) ?_)
  exact run_ret hC (rs := [.tmp 2, .tmp 3]) rfl (resT rfl (resT rfl resN)) (fun _ h => h) ⟨by rw [hn]; rfl, rfl, rfl⟩
end Go.Proofs.YtladcmfbkiogbaaGreatDoor
namespace Go.Proofs.YtladcmfbkiogbaaGreatDoor
open Go.Chi
set_option maxRecDepth 10000
theorem stC_oneL (x : ByteArray) : ∀ u ∈ stC x, u.oneCell' = true := by intro u hu; simp [stC] at hu; subst hu; rfl
theorem stC_snoc (l : List ByteArray) (x : ByteArray) : ((l ++ [x]).map stC).flatten = (l.map stC).flatten ++ stC x := by simp
set_option maxHeartbeats 8000000 in
theorem dparts_ok (M : Mem) (L : HL) (k : Nat) (hk : k ≤ 15) (hd : ByteArray) (ps : List ByteArray) (h1 : Hd hd ps.length) (h3 : ∀ p ∈ ps, Tm k p) (hz : (hd ++ cat ps).size ≤ 1000000) :
    Tr Tryz.prog 192 [.string (hd ++ cat ps)] M L (fun v M' L' => M = M' ∧ ∃ N, L' = N ++ L ∧ OS 9 1 v ps.length (ps.map stC).flatten N) := by
  have hrow := h1.le32
  have hh := head_eq (hd ++ cat ps) (by omega)
  rw [hd_front h1] at hh
  have hln : (hd ++ cat ps).size = hd.size + (cat ps).size := app_size _ _
  generalize hS : hd ++ cat ps = S at hh hln hz ⊢
  simp only at hh
  refine Tr.intro 41 Tryz.func192 rfl rfl Tryz.call192 rfl ?_; intro C hC hro
  repeat (first | refine zz ?_ | refine zx fun _ => ?_ | refine rq (Qt.as (v' := .tuple ⟨[iv hd.size, iv ps.length, .int .i64 0]⟩) (qt_callF rfl (fun _ => head_ok _ _ S (by omega))) (by rw [hh])) ?_)
  refine run_loopN (fun j σ1 M1 L1 => j ≤ ps.length ∧ M = M1 ∧ ∃ a c N, L1 = N ++ L ∧ OS 9 1 (.slice a j c) j ((ps.take j).map stC).flatten N ∧ σ1 = [(7, iv j), (6, .slice a j c), (3, iv (hd.size + (cat (ps.take j)).size)), (4, iv ps.length), (0, .string S)]) ps.length [(7, iv 0), (6, .slice none 0 0), (3, iv hd.size), (4, iv ps.length), (0, .string S)] ?_ ⟨Nat.zero_le _, rfl, _, _, [], rfl, OS.nil _ _, rfl⟩ (fun j _ _ _ h => h.1) ?_
  · exact ⟨rfl, rfl, rfl, rfl, rfl, trivial⟩
  rintro j _ _ _ ⟨hj, rfl, a, c, N, rfl, hO, rfl⟩ hnext
  repeat (first | refine zz ?_ | refine zx fun _ => ?_)
  refine run_cond rfl (fun h5 => ?_) (fun h5 => ?_)
  · have hik : j < ps.length := by simpa using h5
    obtain ⟨q, hq⟩ : ∃ q, ps[j]? = some q := ⟨_, List.getElem?_eq_getElem hik⟩
    have hqm := List.mem_of_getElem? hq
    have htk : ps.take (j + 1) = ps.take j ++ [q] := by rw [List.take_add_one, hq]; rfl
    have hcat : cat ps = cat (ps.take j) ++ (q ++ cat (ps.drop (j + 1))) := by
      conv => lhs; rw [← List.take_append_drop (j + 1) ps, cat_app, htk, cat_app]
      rw [cat, cat, app_nil, app_assoc]
    have hS3 : (hd ++ cat (ps.take j)) ++ (q ++ cat (ps.drop (j + 1))) = S := by rw [← hS, hcat, app_assoc]
    have hx3 : (hd ++ cat (ps.take j)).size = hd.size + (cat (ps.take j)).size := app_size _ _
    have hx4 : S.size = (hd ++ cat (ps.take j)).size + (q.size + (cat (ps.drop (j + 1))).size) := by rw [← hS3]; simp only [app_size]
    have hex : S.extract (hd.size + (cat (ps.take j)).size) S.size = q ++ cat (ps.drop (j + 1)) := by rw [← hx3, ← hS3]; exact ext_right _ _
    have hem : S.extract (hd.size + (cat (ps.take j)).size) (hd.size + (cat (ps.take j)).size + q.size) = q := by rw [← hx3, ← hS3]; exact ext_mid _ _ _
    have hrd := read_at (h3 q hqm) (by omega) (cat (ps.drop (j + 1))) (by rw [app_size]; omega)
    have hcall := fun L => refread_ok M 16 (by decide) L (q ++ cat (ps.drop (j + 1))) (by rw [app_size]; omega)
    rw [hrd, ← hex] at hcall
    generalize hn : hd.size + (cat (ps.take j)).size = n at *
    have hadd : IntKind.i64.wrap ((n : Int) + (q.size : Int)) = ((n + q.size : Nat) : Int) := by
      rw [show (n : Int) + (q.size : Int) = ((n + q.size : Nat) : Int) by omega, wrap64_nat (by omega)]
    repeat (first | refine zz ?_ | refine zx fun _ => ?_ | refine rq (qt_strLo (n := n) tok rfl rfl rfl (fun _ => by omega)) ?_ | refine rq (qt_callF rfl (fun _ => hcall _)) ?_ | refine rq (Qt.as (v' := .string q) (qt_strMid (m := n) (n := n + q.size) tok rfl rfl rfl (by rw [← hadd]; rfl) (fun _ => by omega)) (congrArg Value.string hem)) ?_)
    rename_i b1
    have hidx : iv (hd.size + (cat (ps.take (j + 1))).size) = .int .i64 (IntKind.i64.wrap ((n : Int) + (q.size : Int))) := by rw [hadd, htk, cat_app, app_size, cat, cat, app_nil, ← Nat.add_assoc, hn]
    repeat (first | refine zz ?_ | refine zx fun _ => ?_ | (refine ro (st_append (news := stC q) (m := 1) tok rfl rfl rfl rfl rfl rfl rfl rfl (L0 := (b1, .cells ⟨[.string q]⟩ 9 (0, 0)) :: L) (List.perm_middle (l₁ := N)).symm hO (.inr ⟨b1, 0, 1, rfl, cellsAll List.mem_cons_self, rfl⟩) (stC_oneL q) (by omega) (by omega)) ?_; rintro v3 _ _ ⟨N', rfl, rfl, hO3⟩; obtain ⟨a3, c3, rfl⟩ := osH hO3))
    refine run_mem (L' := N' ++ L) (fun _ h => (h.perm (List.perm_middle (l₁ := N'))).drop) (run_sub' (hnext _ _ _ ⟨hik, rfl, a3, c3, N', rfl, by rw [htk, stC_snoc]; exact hO3, rfl⟩) ⟨lk_succ rfl (by omega), rfl, by show _ = some (iv _); rw [hidx]; rfl, rfl, rfl, trivial⟩)
  · have hik : j = ps.length := by simp at h5; omega
    subst hik
    rw [List.take_length] at hO
    repeat (first | refine zz ?_ | refine zx fun _ => ?_)
    exact run_ret hC (rs := [.tmp 2]) rfl (resT rfl resN) (fun _ h => h) ⟨rfl, N, rfl, hO⟩
end Go.Proofs.YtladcmfbkiogbaaGreatDoor
namespace Go.Proofs.YtladcmfbkiogbaaGreatDoor
open Go.Chi
set_option maxRecDepth 10000
set_option maxRecDepth 10000
theorem refPlainc_ok (M : Mem) (L : HL) (r : Int) : TrQ Tryz.prog 220 [.int .i32 r] M L (.bool (plainR r)) := by
  refine Tr.intro 29 Tryz.func220 rfl rfl Tryz.call220 rfl ?_; intro C hC hro
  repeat (first | refine yy ?_ | refine yx fun _ => ?_)
  refine run_ret hC (rs := [.tmp 2]) rfl (resT rfl resN) (fun _ h => h) ⟨?_, rfl, rfl⟩
  show Value.bool ((((decide (r ≥ 32) && decide (r ≤ 126)) && (r != 34)) || (decide (r ≥ 161) && decide (r ≤ 687))) || (decide (r ≥ 880) && decide (r ≤ 1279))) = Value.bool (plainR r)
  congr 1
  unfold plainR
  rw [Bool.eq_iff_iff]
  simp
  omega
set_option maxHeartbeats 4000000 in
theorem refPlain_ok (M : Mem) (L : HL) (s : ByteArray) : TrQ Tryz.prog 191 [.string s] M L (.bool (plainB s)) := by
  refine Tr.intro 13 Tryz.func191 rfl rfl Tryz.call191 rfl ?_; intro C hC hro
  repeat (first | refine yy ?_ | refine yx fun _ => ?_ | (refine runL_op (st_rangeS tok rfl rfl) rfl rfl rfl ?_; rintro _ _ _ ⟨b, rfl, rfl, rfl⟩))
  refine run_loopN (fun i σ1 M1 L1 => i ≤ s.size ∧ ∃ p, i ≤ p ∧ whF plainR (rsF s p) s.size = whileN s plainR ∧ σ1 = [(6, pt b)] ∧ M = M1 ∧ L1 = (b, .stringIter s p) :: L) s.size [(6, pt b)] ?_ ⟨Nat.zero_le _, 0, Nat.le_refl _, rfl, rfl, rfl, rfl⟩ (fun j _ _ _ h => h.1) ?_
  · exact ⟨rfl, trivial⟩
  rintro i _ _ _ ⟨hi, p, hip, hn, rfl, rfl, rfl⟩ hnext
  by_cases hlt : p < s.size
  · have hwd := decode_wide s hlt
    rw [rsF_lt hlt, whF] at hn
    repeat (first | refine yy ?_ | refine yx fun _ => ?_ | (refine runL_op (st_nextS rfl (by (repeat (first | with_reducible apply Upd.here | with_reducible apply Upd.there | with_reducible apply Upd.append_left))) hlt) rfl rfl rfl ?_; rintro _ _ _ ⟨rfl, rfl, rfl⟩) | refine run_cond (t := true) rfl (fun _ => ?_) (fun h => by cases h) | refine qc (refPlainc_ok _ _ _) ?_)
    refine run_cond (t := !plainR ((Utf8.decode s p).1 : Int)) rfl (fun h3 => ?_) (fun h3 => ?_)
    · rw [if_neg (by simpa using h3)] at hn
      have hf : plainB s = false := by rw [plainB, ← hn]; simp; omega
      repeat (first | refine yy ?_ | refine yx fun _ => ?_)
      exact run_ret hC (rs := [.tmp 2]) rfl (resT rfl resN) (fun _ h => h.drop) ⟨by rw [hf]; rfl, rfl, rfl⟩
    · rw [if_pos (by simpa using h3)] at hn
      repeat (first | refine yy ?_ | refine yx fun _ => ?_)
      exact run_sub' (hnext _ _ _ ⟨by omega, _, by omega, hn, rfl, rfl, rfl⟩) ⟨rfl, trivial⟩
  · rw [rsF_ge hlt, whF] at hn
    have hf : plainB s = true := by rw [plainB, ← hn]; simp
    repeat (first | refine yy ?_ | refine yx fun _ => ?_ | refine runL_q (qt_nextEnd rfl (by (repeat (first | with_reducible apply List.mem_cons_self | with_reducible assumption | with_reducible apply List.mem_cons_of_mem | with_reducible apply List.mem_append_right))) hlt) rfl rfl rfl ?_ | refine run_cond (t := false) rfl (fun h => by cases h) (fun _ => ?_))
    exact run_ret hC (rs := [.tmp 2]) rfl (resT rfl resN) (fun _ h => h.drop) ⟨by rw [hf]; rfl, rfl, rfl⟩
theorem d16_div (b : UInt8) : Value.int .u8 (IntKind.u8.wrap ((b.toNat : Int).tdiv 16)) = .int .u8 ((b.toNat / 16 : Nat) : Int) := by
  have := b.toNat_lt
  rw [Int.tdiv_eq_ediv_of_nonneg (by omega), show (b.toNat : Int) / 16 = ((b.toNat / 16 : Nat) : Int) by omega, u8_nat (by omega)]
theorem d16_mod (b : UInt8) : Value.int .u8 ((b.toNat : Int).tmod 16) = .int .u8 ((b.toNat % 16 : Nat) : Int) := by
  rw [Int.tmod_eq_emod_of_nonneg (by omega), show (b.toNat : Int) % 16 = ((b.toNat % 16 : Nat) : Int) by omega]
def hexS (s : ByteArray) (j : Nat) : ByteArray := ⟨(120 :: hexL (s.data.toList.take j)).toArray⟩
theorem hexS_sz (s : ByteArray) (j : Nat) : (hexS s j).size ≤ 2 * s.size + 1 := by
  have : (hexS s j).size = (120 :: hexL (s.data.toList.take j)).length := by rw [← ba_len, hexS]
  rw [this, List.length_cons, hexL_len, List.length_take, ba_len]; omega
theorem hexS_snoc {s : ByteArray} {j : Nat} {b : UInt8} (h : s.data.toList[j]? = some b) : hexS s j ++ bytesI [((hexD (b.toNat / 16)).toNat : Int), ((hexD (b.toNat % 16)).toNat : Int)] = hexS s (j + 1) := by
  apply ba_ext
  have e : ∀ x y : ByteArray, (x ++ y).data.toList = x.data.toList ++ y.data.toList := fun x y => by simp
  rw [e, bytesI_list, hexS, hexS, hexL_snoc h]
  simp
set_option maxHeartbeats 8000000 in
theorem refDatum_ok (M : Mem) (L : HL) (s : ByteArray) (hs : s.size < 1000000) : TrQ Tryz.prog 152 [.string s] M L (.string (datumB s)) := by
  have h1 : (⟨#[34]⟩ : ByteArray).size = 1 := rfl
  refine Tr.intro 31 Tryz.func152 rfl rfl Tryz.call152 rfl ?_; intro C hC hro
  repeat (first | refine yy ?_ | refine yx fun _ => ?_ | refine qc (refPlain_ok _ _ s) ?_)
  refine run_cond (t := plainB s) rfl (fun h => ?_) (fun h => ?_)
  · have hc1 : (⟨#[34]⟩ : ByteArray).size + s.size < 4611686018427387904 := by omega
    have hc2 : ((⟨#[34]⟩ : ByteArray) ++ s).size + (⟨#[34]⟩ : ByteArray).size < 4611686018427387904 := by rw [app_size]; omega
    repeat (first | refine yy ?_ | refine yx fun _ => ?_)
    exact run_ret hC (rs := [.tmp 2]) rfl (resT rfl resN) (fun _ h => h) ⟨by rw [datumB, if_pos h]; rfl, rfl, rfl⟩
  repeat (first | refine yy ?_ | refine yx fun _ => ?_)
  refine run_loopN (fun j σ1 M1 L1 => j ≤ s.size ∧ M = M1 ∧ L = L1 ∧ σ1 = [(4, iv j), (3, .string (hexS s j)), (0, .string s)]) s.size [(4, iv 0), (3, .string (hexS s 0)), (0, .string s)] ?_ ⟨Nat.zero_le _, rfl, rfl, rfl⟩ (fun j _ _ _ h => h.1) ?_
  · exact ⟨rfl, rfl, rfl, trivial⟩
  rintro j _ _ _ ⟨hj, rfl, rfl, rfl⟩ hnext
  repeat (first | refine yy ?_ | refine yx fun _ => ?_)
  refine run_cond (t := decide ((j : Int) < (s.size : Int))) rfl (fun h2 => ?_) (fun h2 => ?_)
  · have hlt : j < s.size := by have := of_decide_eq_true h2; omega
    obtain ⟨b, hb⟩ : ∃ b : UInt8, s[j]? = some b := ⟨_, getElem?_pos s j hlt⟩
    have hb256 := b.toNat_lt
    have hx1 : hexT[b.toNat / 16]? = some (hexD (b.toNat / 16)) := hex_at ⟨b.toNat / 16, by omega⟩
    have hx2 : hexT[b.toNat % 16]? = some (hexD (b.toNat % 16)) := hex_at ⟨b.toNat % 16, by omega⟩
    have hbl : s.data.toList[j]? = some b := by
      have h1 := (getElem?_eq_some_iff.1 hb)
      obtain ⟨h1, h2⟩ := h1
      rw [List.getElem?_eq_getElem (by simpa using h1)]
      exact congrArg some h2
    have hz := hexS_sz s j
    have hz2 : (bytesI [((hexD (b.toNat / 16)).toNat : Int), ((hexD (b.toNat % 16)).toNat : Int)]).size = 2 := rfl
    repeat (first | refine yy ?_ | refine dd ?_ | refine yd ?_ | refine yx fun _ => ?_ | refine pq rfl ((qt_quo rfl rfl (fun _ => by decide)).as (d16_div b)) ?_ | refine pq rfl ((qt_rem rfl rfl (fun _ => by decide)).as (d16_mod b)) ?_ | refine pq rfl (qt_strIndex tok rfl rfl rfl (fun _ => hx1)) ?_ | refine pq rfl (qt_strIndex tok rfl rfl rfl (fun _ => hx2)) ?_ | refine pq rfl (qt_bytesStr tok [((hexD (b.toNat / 16)).toNat : Int), ((hexD (b.toNat % 16)).toNat : Int)] rfl rfl rfl rfl (cellsAll List.mem_cons_self) rfl) ?_)
    refine run_mem (fun _ h => h.drop) ?_
    exact run_sub' (hnext _ _ _ ⟨hlt, rfl, rfl, rfl⟩) ⟨lk_succ rfl (by omega), by rw [← hexS_snoc hbl]; rfl, rfl, trivial⟩
  · have hge : j = s.size := by have := of_decide_eq_false h2; omega
    subst hge
    repeat (first | refine yy ?_ | refine yx fun _ => ?_)
    refine run_ret hC (rs := [.tmp 2]) rfl (resT rfl resN) (fun _ h => h) ⟨?_, rfl, rfl⟩
    rw [datumB, if_neg (by simp [h]), hexS, List.take_of_length_le (by rw [ba_len]; exact Nat.le_refl _)]
    rfl
theorem rText_ok (M : Mem) (L : HL) (s : ByteArray) (hs : s.size < 2305843009213693952) : TrQ Tryz.prog 149 [.string s] M L (.string (textB s)) := by
  have hz := numB_size (v := s.size) (by omega)
  have e1 : IntKind.u64.wrap (s.size : Int) = (s.size : Int) := u64_nat (by omega)
  refine Tr.intro 9 Tryz.func149 rfl rfl Tryz.call149 rfl ?_; intro C hC hro
  repeat (first | refine yy ?_ | refine yx fun _ => ?_)
  refine runL_as 5 (.int .u64 (s.size : Int)) rfl (by rw [e1]) ?_
  repeat (first | refine yy ?_ | refine yx fun _ => ?_ | refine qc (num_ok _ _ s.size (by omega)) ?_)
  exact run_ret hC (rs := [.tmp 2]) rfl (resT rfl resN) (fun _ h => h) ⟨rfl, rfl, rfl⟩
theorem refData_ok (M : Mem) (L : HL) (s : ByteArray) (hs : s.size < 1000000000) : TrQ Tryz.prog 119 [.string s] M L (.tuple ⟨[.string (dataE s).1, .int .i64 (dataE s).2]⟩) := by
  have hz := textB_sz (t := s) (by omega)
  have h1 : (⟨#[100]⟩ : ByteArray).size = 1 := rfl
  refine Tr.intro 10 Tryz.func119 rfl rfl Tryz.call119 rfl ?_; intro C hC hro
  repeat (first | refine yy ?_ | refine yx fun _ => ?_)
  refine run_cond (t := decide ((s.size : Int) > 1024)) rfl (fun h => ?_) (fun h => ?_)
  · have he : dataE s = (⟨#[]⟩, 5) := if_pos (by have := of_decide_eq_true h; omega)
    repeat (first | refine yy ?_ | refine yx fun _ => ?_)
    exact run_ret hC (rs := [.tmp 2, .tmp 3]) rfl (resT rfl (resT rfl resN)) (fun _ h => h) ⟨by rw [he]; rfl, rfl, rfl⟩
  have he : dataE s = ((⟨#[100]⟩ : ByteArray) ++ textB s, 0) := if_neg (by have := of_decide_eq_false h; omega)
  repeat (first | refine yy ?_ | refine yx fun _ => ?_ | refine qc (rText_ok _ _ s (by omega)) ?_)
  exact run_ret hC (rs := [.tmp 2, .tmp 3]) rfl (resT rfl (resT rfl resN)) (fun _ h => h) ⟨by rw [he]; rfl, rfl, rfl⟩
theorem refParts_ok (M : Mem) (L : HL) (t : ByteArray) (ht : mayB t = true) (hz : t.size ≤ 20000) : Tr Tryz.prog 153 [.string t] M L (fun v M' L' => M.le M' ∧ L' = L ∧ ∃ s : SStr, v = .tuple ⟨[s.v, .bool true]⟩ ∧ StOk M' s ∧ s.xs = partsL t) := by
  obtain ⟨hT, hz2⟩ := (mayB_iff (by omega)).1 ht
  obtain ⟨hd, ps, k1, k2, k3⟩ := hT
  have hps : partsL t = ps := by rw [k2]; exact parts_of (show 15 ≤ 16 by decide) k1 k3 (by rw [← k2]; omega)
  have h32 := k1.le32
  rw [hps]
  have hp := fun L => dparts_ok M L 15 (by decide) hd ps k1 k3 (by rw [← k2]; omega)
  rw [← k2] at hp
  refine Tr.intro 9 Tryz.func153 rfl rfl Tryz.call153 rfl ?_; intro C hC hro
  repeat (first | refine yy ?_ | refine yx fun _ => ?_ | refine qc (dmay_ok _ _ t (by omega)) ?_)
  refine run_cond (t := false) (by show some (Value.bool _) = _; simp [ht]) (fun h => by cases h) (fun _ => ?_)
  repeat (first | refine yy ?_ | refine yx fun _ => ?_ | (refine oc (hp _) ?_; rintro v M1 _ ⟨rfl, N, rfl, hO⟩; obtain ⟨av, cv, rfl⟩ := osH hO))
  refine run_retE hC (rs := [.tmp 2, .tmp 3]) rfl (resT rfl (resT rfl resN)) fun w hw => ?_
  obtain ⟨M2, a2, c2, q1, q2, q3, q4⟩ := hw.freezeOS hO (by simp) (fun c hc => by obtain ⟨x, _, rfl⟩ := List.mem_map.1 hc; rfl)
  refine ⟨M2, L, q2, q1, rfl, ⟨a2, ps.length, c2, ps⟩, ?_, ⟨q4, by show ps.length < 1000000; omega⟩, rfl⟩
  show Value.tuple ⟨[_, _]⟩ = _
  rw [q3]
  rfl
theorem hd_first {h : ByteArray} {n : Nat} (hh : Hd h n) (x : ByteArray) : ∃ c y, (c = 100 ∨ c = 97 ∨ c = 114 ∨ c = 104 ∨ c = 109 ∨ c = 115) ∧ h ++ x = bytesI [c] ++ y := by
  cases hh with
  | data => exact ⟨100, _, .inl rfl, app_assoc _ _ _⟩
  | atom => exact ⟨97, _, .inr (.inl rfl), app_assoc _ _ _⟩
  | row => exact ⟨114, _, .inr (.inr (.inl rfl)), app_assoc _ _ _⟩
  | hash => exact ⟨104, _, .inr (.inr (.inr (.inl rfl))), rfl⟩
  | mac => exact ⟨109, _, .inr (.inr (.inr (.inr (.inl rfl)))), rfl⟩
  | slot => exact ⟨115, _, .inr (.inr (.inr (.inr (.inr rfl)))), rfl⟩
set_option maxHeartbeats 16000000 in
theorem refLineT_ok : ∀ (k : Nat), k ≤ 16 → ∀ (t : ByteArray), Tm k t → t.size ≤ 16384 → ∀ (M : Mem) (L : HL), TrQ Tryz.prog 120 [.string t, .int .i64 ((17 - k : Nat) : Int), .int .i64 16] M L (.string (lineB k t))
  | 0, _, _, h, _, _, _ => h.elim
  | k + 1, hk, t, hT, hz, M, L => by
    have hmay : mayB t = true := (mayB_iff (by omega)).2 ⟨hT.mono hk, hz⟩
    have hpos := hT.pos
    have hkd : kindN t = kindB (byte t 0) := by rw [kindN, if_pos hmay]
    have htz := ttextsz t
    have h2s : (⟨#[36]⟩ : ByteArray).size + (textN t).1.size < 4611686018427387904 := by show 1 + _ < _; omega
    have hls := line_size (k + 1) hk t hT (by omega)
    have h84 : 4 + 5 * (k + 1) ≤ 84 := by omega
    have hl4 : (4 + 5 * (k + 1)) * t.size ≤ 84 * 16384 := Nat.mul_le_mul h84 hz
    have hB1 : kindN t = 1 → lineB (k + 1) t = datumB (textN t).1 := fun h => by rw [lineB, if_pos h]
    have hB2 : kindN t = 2 → lineB (k + 1) t = (⟨#[36]⟩ : ByteArray) ++ (textN t).1 := fun h => by rw [lineB, if_neg (by omega), if_pos h]
    obtain ⟨hh, ps, k1, k2, k3⟩ := hT
    have hps : partsL t = ps := by rw [k2]; exact parts_of (by omega) k1 k3 (by rw [← k2]; omega)
    have hB3 : kindN t ≠ 1 → kindN t ≠ 2 → lineB (k + 1) t = if kindN t = 3 then ((⟨#[91]⟩ : ByteArray) ++ seqC sepB true (ps.map (lineB k))) ++ ⟨#[93]⟩ else ((t.extract 0 1 ++ ⟨#[40]⟩) ++ seqC sepB true (ps.map (lineB k))) ++ ⟨#[41]⟩ := fun h1 h2 => by
      rw [lineB, if_neg h1, if_neg h2, hps]
    have hsz0 : kindN t ≠ 1 → kindN t ≠ 2 → (seqC sepB true (ps.map (lineB k))).size ≤ 2000000 := fun h1 h2 => by
      rw [hB3 h1 h2] at hls
      split at hls
      · rw [app_size, app_size] at hls; omega
      · rw [app_size, app_size] at hls; omega
    have ih : ∀ x : ByteArray, Tm k x → x.size ≤ 16384 → ∀ (M : Mem) (L : HL), TrQ Tryz.prog 120 [.string x, .int .i64 ((17 - k : Nat) : Int), .int .i64 16] M L (.string (lineB k x)) := refLineT_ok k (by omega)
    clear hls hl4 h84
    generalize lineB (k + 1) t = r at *
    generalize lineB k = f at *
    refine Tr.intro 76 Tryz.func120 rfl rfl Tryz.call120 rfl ?_; intro C hC hro
    repeat (first | refine yy ?_ | refine yx fun _ => ?_)
    refine run_cond (t := decide (((17 - (k + 1) : Nat) : Int) > 16)) rfl (fun h => by have := of_decide_eq_true h; omega) (fun _ => ?_)
    repeat (first | refine yy ?_ | refine yx fun _ => ?_ | refine qc (dkind_ok _ _ t (by omega)) ?_ | refine qc (dtext_ok _ _ t (by omega)) ?_)
    refine run_cond (t := kindN t == 1) rfl (fun h => ?_) (fun h1 => ?_)
    · have hdz : (textN t).1.size < 1000000 := by omega
      repeat (first | refine yy ?_ | refine yx fun _ => ?_ | refine qc (refDatum_ok _ _ (textN t).1 hdz) ?_)
      refine run_ret hC (rs := [.tmp 6]) rfl (resT rfl resN) (fun _ h => h) ⟨?_, rfl, rfl⟩
      rw [hB1 (by simpa using h)]; rfl
    repeat (first | refine yy ?_ | refine yx fun _ => ?_)
    refine run_cond (t := kindN t == 2) rfl (fun h => ?_) (fun h2 => ?_)
    · repeat (first | refine yy ?_ | refine yx fun _ => ?_)
      exact run_ret hC (rs := [.tmp 6]) rfl (resT rfl resN) (fun _ h => h) ⟨by rw [hB2 (by simpa using h)]; rfl, rfl, rfl⟩
    have hB := hB3 (by simpa using h1) (by simpa using h2)
    have hsz := hsz0 (by simpa using h1) (by simpa using h2)
    have hall' : ∀ j, (seqC sepB true ((ps.take j).map f)).size ≤ (seqC sepB true (ps.map f)).size := fun j => by
      rw [List.map_take]; exact seqC_le _ _ _ _
    clear hB1 hB2 hB3 hsz0
    repeat (first | refine yy ?_ | refine yx fun _ => ?_ | (refine oc (refParts_ok _ _ t hmay (by omega)) ?_; rintro _ M1 L1 ⟨hM1, hL1, s, rfl, hso, hsx⟩; rw [hL1]; clear hL1))
    obtain ⟨sa, sn, sc, xs⟩ := s
    obtain rfl : xs = ps := by rw [← hps]; exact hsx
    have hsn : xs.length = sn := hso.len
    have h6 : sn < 1000000 := hso.2
    have hsl : SlM M1 1 sa sn (xs.map stC) := hso.1
    clear hso hsx
    refine run_loopN (fun j σ1 M2 L3 => j ≤ sn ∧ M1 = M2 ∧ L = L3 ∧ σ1 = [(13, iv j), (10, .string (seqC sepB true ((xs.take j).map f))), (11, .slice sa sn sc), (7, .int .u8 (kindN t)), (1, .int .i64 ((17 - (k + 1) : Nat) : Int)), (2, .int .i64 16)]) sn [(13, iv 0), (10, .string (seqC sepB true ((xs.take 0).map f))), (11, .slice sa sn sc), (7, .int .u8 (kindN t)), (1, .int .i64 ((17 - (k + 1) : Nat) : Int)), (2, .int .i64 16)] ?_ ⟨Nat.zero_le _, rfl, rfl, rfl⟩ (fun j _ _ _ h => h.1) ?_
    · exact ⟨rfl, rfl, rfl, rfl, rfl, rfl, trivial⟩
    rintro j _ _ _ ⟨hj, rfl, rfl, rfl⟩ hnext
    have hlj := hall' j
    repeat (first | refine yy ?_ | refine yx fun _ => ?_)
    refine run_cond (t := decide ((j : Int) < (sn : Int))) rfl (fun h5 => ?_) (fun h5 => ?_)
    · have hlt : j < sn := by have := of_decide_eq_true h5; omega
      obtain ⟨bb, off, x, rfl, hx, hc⟩ := SStr.at_ hsl hlt
      have hxm := List.mem_of_getElem? hx
      have hsn' := seqC_snoc sepB (f x) ((xs.take j).map f) true
      rw [← List.map_singleton, ← List.map_append, ← take_snoc hx] at hsn'
      have hlj2 := hall' (j + 1)
      have hs2' : sepB.size = 2 := rfl
      have hw : IntKind.i64.wrap (((17 - (k + 1) : Nat) : Int) + 1) = ((17 - k : Nat) : Int) := by rw [wrap64_succ (by omega), show 17 - (k + 1) + 1 = 17 - k by omega]
      have hxz : x.size ≤ 16384 := by have h1 := cat_mem hxm; have h2 := app_size hh (cat xs); rw [← k2] at h2; omega
      have hacc : (if j = 0 then seqC sepB true ((xs.take j).map f) else seqC sepB true ((xs.take j).map f) ++ sepB) ++ f x = seqC sepB true ((xs.take (j + 1)).map f) := by
        rw [hsn']
        by_cases h0 : j = 0
        · subst h0; rfl
        · have he : ((xs.take j).map f).isEmpty = false := by
            rw [List.isEmpty_eq_false_iff, ne_eq, List.map_eq_nil_iff, List.take_eq_nil_iff]
            rintro (h | h)
            · exact h0 h
            · rw [h] at hsn; simp at hsn; omega
          rw [if_neg h0, he, app_assoc]; rfl
      have hasz := congrArg ByteArray.size hacc
      rw [app_size] at hasz
      repeat (first | refine yy ?_ | refine yx fun _ => ?_)
      refine run_condI (fun σ' M' L' => M1 = M' ∧ L = L' ∧ σ' = [(10, .string (if j = 0 then seqC sepB true ((xs.take j).map f) else seqC sepB true ((xs.take j).map f) ++ sepB)), (13, iv j), (11, .slice (some ⟨bb, off, none⟩) sn sc), (7, .int .u8 (kindN t)), (1, .int .i64 ((17 - (k + 1) : Nat) : Int)), (2, .int .i64 16)]) (t := decide ((j : Int) > 0)) rfl (fun h hk => ?_) (fun h hk => ?_) ?_
      · have hj0 : j ≠ 0 := by have := of_decide_eq_true h; omega
        have hcc : (seqC sepB true ((xs.take j).map f)).size + (⟨#[44, 32]⟩ : ByteArray).size < 4611686018427387904 := by show _ + 2 < _; omega
        refine yy ?_
        refine yy ?_
        refine yy ?_
        refine yy ?_
        refine yy ?_
        exact run_sub' (hk _ _ _ ⟨rfl, rfl, rfl⟩) ⟨by rw [if_neg hj0]; rfl, rfl, rfl, rfl, rfl, rfl, trivial⟩
      · have hj0 : j = 0 := by have := of_decide_eq_false h; omega
        refine yy ?_
        exact run_sub' (hk _ _ _ ⟨rfl, rfl, rfl⟩) ⟨by rw [if_pos hj0]; rfl, rfl, rfl, rfl, rfl, rfl, trivial⟩
      rintro _ _ _ ⟨rfl, rfl, rfl⟩
      repeat (first | refine yy ?_ | refine yx fun _ => ?_)
      refine runL_as 53 (.int .i64 ((17 - k : Nat) : Int)) rfl (congrArg (Value.int .i64) hw) ?_
      refine qc (ih x (k3 x hxm) hxz _ _) ?_
      have hcc2 : (if j = 0 then seqC sepB true ((xs.take j).map f) else seqC sepB true ((xs.take j).map f) ++ sepB).size + (f x).size < 4611686018427387904 := by omega
      repeat (first | refine yy ?_ | refine yx fun _ => ?_)
      exact run_sub' (hnext _ _ _ ⟨hlt, rfl, rfl, rfl⟩) ⟨lk_succ rfl (by omega), by rw [← hacc]; rfl, rfl, rfl, rfl, rfl, trivial⟩
    · have hge : j = sn := by have := of_decide_eq_false h5; omega
      subst hge
      rw [List.take_of_length_le (by omega)]
      obtain ⟨c, y, hc, hty⟩ := hd_first k1 (cat xs)
      rw [← k2] at hty
      have hkc : kindN t = kindB c := by rw [hkd, hty, byte0_one (by rcases hc with h | h | h | h | h | h <;> omega) (by rcases hc with h | h | h | h | h | h <;> omega)]
      have hex : t.extract 0 1 = bytesI [c] := by rw [hty]; exact ext_left (bytesI [c]) y
      have hsq := hsz
      generalize seqC sepB true (xs.map f) = Q at *
      have q1 : ∀ (z : ByteArray), z.size ≤ 2 → z.size + Q.size < 4611686018427387904 := fun z hz => by omega
      have q2 : ∀ (z u : ByteArray), z.size ≤ 2 → u.size ≤ 1 → (z ++ Q).size + u.size < 4611686018427387904 := fun z u hz hu => by rw [app_size]; omega
      repeat (first | refine yy ?_ | refine yx fun _ => ?_)
      refine run_cond (t := kindN t == 4) rfl (fun h => ?_) (fun h4 => ?_)
      · have h : kindN t = 4 := by simpa using h
        have hc4 : c = 104 := by rw [hkc] at h; rcases hc with rfl | rfl | rfl | rfl | rfl | rfl <;> first | rfl | (exact absurd h (by decide))
        have c1 := q1 ⟨#[104, 40]⟩ (by decide)
        have c2 := q2 ⟨#[104, 40]⟩ ⟨#[41]⟩ (by decide) (by decide)
        repeat (first | refine yy ?_ | refine yx fun _ => ?_)
        exact run_ret hC (rs := [.tmp 6]) rfl (resT rfl resN) (fun _ h => h.of_le hM1) ⟨by rw [hB, if_neg (by rw [h]; decide), hex, hc4]; rfl, rfl, rfl⟩
      repeat (first | refine yy ?_ | refine yx fun _ => ?_)
      refine run_cond (t := kindN t == 5) rfl (fun h => ?_) (fun h5 => ?_)
      · have h : kindN t = 5 := by simpa using h
        have hc4 : c = 109 := by rw [hkc] at h; rcases hc with rfl | rfl | rfl | rfl | rfl | rfl <;> first | rfl | (exact absurd h (by decide))
        have c1 := q1 ⟨#[109, 40]⟩ (by decide)
        have c2 := q2 ⟨#[109, 40]⟩ ⟨#[41]⟩ (by decide) (by decide)
        repeat (first | refine yy ?_ | refine yx fun _ => ?_)
        exact run_ret hC (rs := [.tmp 6]) rfl (resT rfl resN) (fun _ h => h.of_le hM1) ⟨by rw [hB, if_neg (by rw [h]; decide), hex, hc4]; rfl, rfl, rfl⟩
      repeat (first | refine yy ?_ | refine yx fun _ => ?_)
      refine run_cond (t := kindN t == 6) rfl (fun h => ?_) (fun h6 => ?_)
      · have h : kindN t = 6 := by simpa using h
        have hc4 : c = 115 := by rw [hkc] at h; rcases hc with rfl | rfl | rfl | rfl | rfl | rfl <;> first | rfl | (exact absurd h (by decide))
        have c1 := q1 ⟨#[115, 40]⟩ (by decide)
        have c2 := q2 ⟨#[115, 40]⟩ ⟨#[41]⟩ (by decide) (by decide)
        repeat (first | refine yy ?_ | refine yx fun _ => ?_)
        exact run_ret hC (rs := [.tmp 6]) rfl (resT rfl resN) (fun _ h => h.of_le hM1) ⟨by rw [hB, if_neg (by rw [h]; decide), hex, hc4]; rfl, rfl, rfl⟩
      have h3 : kindN t = 3 := by
        have h1' : kindN t ≠ 1 := by simpa using h1
        have h2' : kindN t ≠ 2 := by simpa using h2
        have h4' : kindN t ≠ 4 := by simpa using h4
        have h5' : kindN t ≠ 5 := by simpa using h5
        have h6' : kindN t ≠ 6 := by simpa using h6
        rw [hkc] at h1' h2' h4' h5' h6' ⊢
        rcases hc with rfl | rfl | rfl | rfl | rfl | rfl
        · exact absurd rfl h1'
        · exact absurd rfl h2'
        · rfl
        · exact absurd rfl h4'
        · exact absurd rfl h5'
        · exact absurd rfl h6'
      have c1 := q1 ⟨#[91]⟩ (by decide)
      have c2 := q2 ⟨#[91]⟩ ⟨#[93]⟩ (by decide) (by decide)
      repeat (first | refine yy ?_ | refine yx fun _ => ?_)
      exact run_ret hC (rs := [.tmp 6]) rfl (resT rfl resN) (fun _ h => h.of_le hM1) ⟨by rw [hB, if_pos h3]; rfl, rfl, rfl⟩
theorem refBrief_ok (M : Mem) (L : HL) (t : ByteArray) (hz : t.size < 1000000) : TrQ Tryz.prog 80 [.string t, iv 16] M L (.tuple ⟨[.string (lineE t).1, .int .i64 (lineE t).2]⟩) := by
  refine Tr.intro 12 Tryz.func80 rfl rfl Tryz.call80 rfl ?_; intro C hC hro
  repeat (first | refine yy ?_ | refine yx fun _ => ?_ | refine qc (dmay_ok _ _ t (by omega)) ?_)
  refine run_cond (t := !mayB t) rfl (fun h => ?_) (fun h => ?_)
  · have h0 : mayB t = false := by simpa using h
    repeat (first | refine yy ?_ | refine yx fun _ => ?_)
    exact run_ret hC (rs := [.tmp 4, .tmp 5]) rfl (resT rfl (resT rfl resN)) (fun _ h => h) ⟨by rw [lineE, if_neg (by rw [h0]; decide)]; rfl, rfl, rfl⟩
  have h0 : mayB t = true := by simpa using h
  obtain ⟨hT, hz2⟩ := (mayB_iff (by omega)).1 h0
  repeat (first | refine yy ?_ | refine yx fun _ => ?_ | refine qc (refLineT_ok 16 (Nat.le_refl _) t hT hz2 _ _) ?_)
  exact run_ret hC (rs := [.tmp 4, .tmp 5]) rfl (resT rfl (resT rfl resN)) (fun _ h => h) ⟨by rw [lineE, if_pos h0]; rfl, rfl, rfl⟩
theorem refLine_ok (M : Mem) (L : HL) (t : ByteArray) (hz : t.size < 1000000) : TrQ Tryz.prog 39 [.string t] M L (.tuple ⟨[.string (lineE t).1, .int .i64 (lineE t).2]⟩) := by
  refine Tr.intro 8 Tryz.func39 rfl rfl Tryz.call39 rfl ?_; intro C hC hro
  repeat (first | refine yy ?_ | refine yx fun _ => ?_ | refine qc (refBrief_ok _ _ t hz) ?_)
  exact run_ret hC (rs := [.tmp 2, .tmp 3]) rfl (resT rfl (resT rfl resN)) (fun _ h => h) ⟨rfl, rfl, rfl⟩
end Go.Proofs.YtladcmfbkiogbaaGreatDoor
namespace Go.Proofs.YtladcmfbkiogbaaGreatDoor
open Go.Chi
set_option maxRecDepth 10000
section
variable {C : Cx} {n : Nat} {k : List Item} {ds : List Deferred} {σ : Env} {δ : Den} {M : Mem} {L : HL} {ops : Array Oper} {D X : List Nat} {d : Nat} {op : Op} {ty : TypeId} {pos : String} {aft : Array Edge} {v : Value} {f : FuncId} {args : Array Operand} {tys : Array TypeId} {vs : List Value} {K : Value → Mem → HL → Prop} {qs : List Nat}
theorem qqx (i : Nat) (h : PR Tryz.prog C n ops k ds (i :: D) X ((d, v) :: σ) δ M L) (ho : ops[i]? = some ⟨some d, op, ty, pos, aft, none⟩ := by exact rfl) (hst : Qt Tryz.prog C.b.roundOf ⟨some d, op, ty, pos, aft, none⟩ σ δ [] M L v := by first | refine qt_pev tok rfl | refine ql tok rfl | refine qt_indexN tok rfl rfl rfl rfl (fun hy => by first | assumption | omega | (have h0 := hy.1; simp at h0; omega)) | refine qt_index tok rfl rfl rfl rfl (fun _ => by decide) | refine qt_ldM tok rfl (by first | assumption | exact Cells.le (by assumption) (by assumption)) rfl | refine qt_ldM0 tok rfl (by first | assumption | exact Cells.le (by assumption) (by assumption)) rfl | refine qt_strIndex tok rfl rfl rfl (fun _ => by assumption) | refine qt_strIndex (n := 0) tok rfl rfl rfl (fun _ => by assumption) | refine qt_strLo tok rfl rfl rfl (fun hy => by first | assumption | omega | (have h0 := hy.1; simp at h0; omega)) | refine qt_strHi tok rfl rfl rfl (fun hy => by first | assumption | omega | (have h0 := hy.1; simp at h0; omega)) | refine qt_strMid tok rfl rfl rfl rfl (fun hy => by first | assumption | omega | (have h0 := hy.1; simp at h0; omega)) | refine qt_concat rfl rfl (by first | assumption | omega | (simp only [app_size] at *; omega)) | refine qt_shr rfl rfl (fun _ => by decide) | refine qt_makeIfaceC tok rfl rfl rfl | refine qt_assertC tok rfl rfl rfl | refine qt_assertCk tok rfl rfl rfl) (hchk : chkQ ops D i = true := by decide +kernel) (hd : Nat.blt d n = true := by exact rfl) (hn : lkd δ d = none := by exact rfl) (hu : unNamed δ d = true := by exact rfl) : PR Tryz.prog C n ops k ds D X σ δ M L := pr_q i hchk ho hst hd hn hu h
theorem qqc (i : Nat) (ht : TrQ Tryz.prog f vs M L v) (h : PR Tryz.prog C n ops k ds (i :: D) X ((d, v) :: σ) δ M L) (ho : ops[i]? = some ⟨some d, .call ⟨.value (.func f), args, tys⟩, ty, pos, aft, none⟩ := by exact rfl) (ha : evs σ δ [] args.toList = some vs := by exact rfl) (hchk : chkQ ops D i = true := by decide +kernel) (hd : Nat.blt d n = true := by exact rfl) (hn : lkd δ d = none := by exact rfl) (hu : unNamed δ d = true := by exact rfl) : PR Tryz.prog C n ops k ds D X σ δ M L := pr_q i hchk ho (qt_callF ha fun _ => ht) hd hn hu h
theorem ooc (i : Nat) (ht : Tr Tryz.prog f vs M L K) (h : ∀ v M' L', K v M' L' → PendAll Tryz.prog C.b.roundOf ops σ δ M' L' (open_ ops D X i) ∧ PR Tryz.prog C n ops k ds (i :: D) (i :: X) ((d, v) :: σ) δ M' L') (ho : ops[i]? = some ⟨some d, .call ⟨.value (.func f), args, tys⟩, ty, pos, aft, none⟩ := by exact rfl) (ha : evs σ δ [] args.toList = some vs := by exact rfl) (hac : (acyc ops && chkC ops D [i]) = true := by decide +kernel) (hchk : chkE1 ops D i = true := by decide +kernel) (hd : Nat.blt d n = true := by exact rfl) (hn : lkd δ d = none := by exact rfl) (hu : unNamed δ d = true := by exact rfl) : PR Tryz.prog C n ops k ds D X σ δ M L := pr_one i hac (eff1 i ho (st_callF ha fun _ => ht) hchk rfl hd hn hu h)
end
theorem ppx {A B : Prop} (h : B) (hp : A := by (repeat (first | exact trivial | refine And.intro (pend_q rfl rfl rfl (by first | refine qt_pev tok rfl | refine ql tok rfl | refine qt_indexN tok rfl rfl rfl rfl (fun hy => by first | assumption | omega | (have h0 := hy.1; simp at h0; omega)) | refine qt_index tok rfl rfl rfl rfl (fun _ => by decide) | refine qt_ldM tok rfl (by first | assumption | exact Cells.le (by assumption) (by assumption)) rfl | refine qt_ldM0 tok rfl (by first | assumption | exact Cells.le (by assumption) (by assumption)) rfl | refine qt_strIndex tok rfl rfl rfl (fun _ => by assumption) | refine qt_strIndex (n := 0) tok rfl rfl rfl (fun _ => by assumption) | refine qt_strLo tok rfl rfl rfl (fun hy => by first | assumption | omega | (have h0 := hy.1; simp at h0; omega)) | refine qt_strHi tok rfl rfl rfl (fun hy => by first | assumption | omega | (have h0 := hy.1; simp at h0; omega)) | refine qt_strMid tok rfl rfl rfl rfl (fun hy => by first | assumption | omega | (have h0 := hy.1; simp at h0; omega)) | refine qt_concat rfl rfl (by first | assumption | omega | (simp only [app_size] at *; omega)) | refine qt_shr rfl rfl (fun _ => by decide) | refine qt_makeIfaceC tok rfl rfl rfl | refine qt_assertC tok rfl rfl rfl | refine qt_assertCk tok rfl rfl rfl)) ?_))) : A ∧ B := ⟨hp, h⟩
end Go.Proofs.YtladcmfbkiogbaaGreatDoor
namespace Go.Proofs.YtladcmfbkiogbaaGreatDoor
open Go.Chi Go.Lib
set_option maxRecDepth 10000
theorem rnum_ok (M : Mem) (L : HL) (hG : G38 M) (n : Int) (h0 : 0 ≤ n) (h1 : n ≤ 9223372036854775807) : TrQ Tryz.prog 38 [.int .i64 n] M L (.string (dgB n)) := by
  have hi := fun L => itoa_ok M L n.toNat (by omega) hG
  rw [Int.toNat_of_nonneg h0] at hi
  refine Tr.intro 5 Tryz.func38 rfl rfl Tryz.call38 rfl ?_; intro C hC hro
  repeat (first | refine yy ?_ | refine yx fun _ => ?_ | refine qc (hi _) ?_)
  exact run_ret hC (rs := [.tmp 2]) rfl (resT rfl resN) (fun _ h => h) ⟨rfl, rfl, rfl⟩
set_option maxHeartbeats 4000000 in
theorem rnums_ok (M : Mem) (L : HL) (hG : G38 M) (w : ByteArray) (p : SIn) (hp : InOk M p) (hall : ∀ v ∈ p.xs, nmW v = true) (hw : w.size ≤ 1000) (h32 : p.xs.length ≤ 32) : TrQ Tryz.prog 118 [.string w, p.v] M L (.string (w ++ rwB p.xs)) := by
  have l1 := hp.len
  have n1 := hp.2
  obtain ⟨pa, pl, pc, px⟩ := p
  simp only [SIn.v] at *
  refine Tr.intro 21 Tryz.func118 rfl rfl Tryz.call118 rfl ?_; intro C hC hro
  repeat (first | refine yy ?_ | refine yx fun _ => ?_)
  refine run_loopN (fun j σ1 M1 L1 => j ≤ pl ∧ M = M1 ∧ L = L1 ∧ σ1 = [(5, iv j), (0, .string (w ++ rwB (px.take j))), (1, .slice pa pl pc)]) pl [(5, iv 0), (0, .string (w ++ rwB (px.take 0))), (1, .slice pa pl pc)] ?_ ⟨Nat.zero_le _, rfl, rfl, rfl⟩ (fun j _ _ _ h => h.1) ?_
  · exact ⟨rfl, by rw [List.take_zero, rwB, app_nil]; rfl, rfl, trivial⟩
  rintro j _ _ _ ⟨hj, rfl, rfl, rfl⟩ hnext
  repeat (first | refine yy ?_ | refine yx fun _ => ?_)
  refine run_cond (t := decide ((j : Int) < (pl : Int))) rfl (fun h => ?_) (fun h => ?_)
  · have hlt : j < pl := by have := of_decide_eq_true h; omega
    obtain ⟨b, off, m, rfl, hm, hc⟩ := SIn.at_ hp.1 hlt
    have hmw := nIn (hall m (List.mem_of_getElem? hm))
    have z1 := rwB_sz (l := px.take j) fun v hv => hall v (List.mem_of_mem_take hv)
    have z2 : (px.take j).length ≤ 32 := by rw [List.length_take]; omega
    have z3 := dgB_sz (n := m) (by omega)
    have h1s : sp1.size = 1 := rfl
    have hcc : (w ++ rwB (px.take j)).size + sp1.size < 4611686018427387904 := by rw [app_size]; omega
    have hcc2 : ((w ++ rwB (px.take j)) ++ sp1).size + (dgB m).size < 4611686018427387904 := by rw [app_size, app_size]; omega
    repeat (first | refine yy ?_ | refine yx fun _ => ?_ | refine qc (rnum_ok _ _ hG m hmw.1 (by omega)) ?_ | refine vq ?_ (qt_concat rfl rfl hcc) | refine vq ?_ (qt_concat rfl rfl hcc2))
    refine run_sub' (hnext _ _ _ ⟨hlt, rfl, rfl, rfl⟩) ⟨lk_succ rfl (by omega), ?_, rfl, trivial⟩
    rw [take_snoc hm, rwB_app, show rwB [m] = sp1 ++ dgB m from app_nil _, ← app_assoc, ← app_assoc]
    rfl
  · have hge : j = pl := by have := of_decide_eq_false h; omega
    subst hge
    rw [List.take_of_length_le (by omega)]
    repeat (first | refine yy ?_ | refine yx fun _ => ?_)
    exact run_ret hC (rs := [.tmp 4]) rfl (resT rfl resN) (fun _ h => h) ⟨rfl, rfl, rfl⟩
theorem numsL_ok (M : Mem) (L : HL) (hG : G38 M) (w : ByteArray) (b n : Nat) (xs : List Int) (cs : List Value) (hcs : cs = xs.map (Value.int .i64)) (hm : (b, Obj.cells ⟨cs⟩ 3 (0, 0)) ∈ L) (hn : n = xs.length) (hall : ∀ v ∈ xs, nmW v = true) (hw : w.size ≤ 1000) (h32 : xs.length ≤ 32) :
    TrQ Tryz.prog 118 [.string w, .slice (some ⟨b, 0, none⟩) n n] M L (.string (w ++ rwB xs)) :=
  TrQ.lend (fun w => Tryz.call118 _ w) fun M' hm' hb => by
    have hs : InOk M' ⟨some ⟨b, 0, none⟩, n, n, xs⟩ := ⟨by
      have := SlM.ofBlk (size := 1) (ls := xs.map inC) (hb _ _ hm) (by
        rw [hcs]; clear hcs hm hb hn hall h32
        induction xs with
        | nil => rfl
        | cons x l ih => rw [List.map_cons, List.map_cons, List.flatten_cons, ← ih]; rfl) (fun c hc => by obtain ⟨x, _, rfl⟩ := List.mem_map.1 hc; rfl)
      rw [List.length_map, ← hn] at this
      exact this, by show n < 1000000; omega⟩
    exact rnums_ok M' [] (hG.le hm') w _ hs hall hw h32
set_option maxHeartbeats 4000000 in
theorem rtxn_ok (M : Mem) (L : HL) (hG : G38 M) (S : SStr) (hS : StOk M S) (hz : ∀ x ∈ S.xs, x.size < 1000000) (t : Tx) (h0 : 0 ≤ t.coord ∧ t.coord < (S.xs.length : Int)) (h1 : 0 ≤ t.epoch ∧ t.epoch ≤ 9223372036854775807) (h2 : 0 ≤ t.seq ∧ t.seq ≤ 9223372036854775807) : TrQ Tryz.prog 40 [S.v, .agg ⟨txC t⟩] M L (.string (txnT S.xs t)) := by
  have hl := hS.len
  have hd1 := dgB_sz h1.2
  have hd2 := dgB_sz h2.2
  obtain ⟨k, hk⟩ := Int.eq_ofNat_of_zero_le h0.1
  have hlt : k < S.len := by omega
  obtain ⟨b, off, x, ha, hx, hc⟩ := SStr.at_ hS.1 hlt
  have hxz := hz x (List.mem_of_getElem? hx)
  have hnt : nameT S.xs t.coord = x := by rw [nameT, hk, Int.toNat_natCast, hx]; rfl
  obtain ⟨sa, sn, sc, xs⟩ := S
  obtain ⟨tc, te, ts⟩ := t
  simp only at *
  subst ha hk
  have h1s : slB.size = 1 := rfl
  have q1 : x.size + slB.size < 4611686018427387904 := by omega
  have q2 : (x ++ slB).size + (dgB te).size < 4611686018427387904 := by rw [app_size]; omega
  have q3 : ((x ++ slB) ++ dgB te).size + slB.size < 4611686018427387904 := by rw [app_size, app_size]; omega
  have q4 : (((x ++ slB) ++ dgB te) ++ slB).size + (dgB ts).size < 4611686018427387904 := by rw [app_size, app_size, app_size]; omega
  have he : txnT xs ⟨k, te, ts⟩ = (((x ++ slB) ++ dgB te) ++ slB) ++ dgB ts := by rw [txnT, hnt]; simp only [app_assoc]
  rw [he]
  refine Tr.intro 20 Tryz.func40 rfl rfl Tryz.call40 rfl ?_; intro C hC hro
  repeat (first | refine yy ?_ | refine dd ?_ | refine yd ?_ | refine yx fun _ => ?_ | refine pc (rnum_ok _ _ hG te h1.1 h1.2) ?_ | refine pc (rnum_ok _ _ hG ts h2.1 h2.2) ?_ | refine pq rfl (qt_concat rfl rfl q1) ?_ | refine pq rfl (qt_concat rfl rfl q2) ?_ | refine pq rfl (qt_concat rfl rfl q3) ?_ | refine pq rfl (qt_concat rfl rfl q4) ?_)
  exact run_ret hC (rs := [.tmp 4]) rfl (resT rfl resN) (fun _ h => h.drop) ⟨rfl, rfl, rfl⟩
def bareR (x : Sr) : Sr := ⟨x.do_, (bareN x.sp).a, (bareN x.sp).b, (bareN x.sp).c, (bareN x.sp).n, if x.do_ = 2 then x.text else ⟨#[]⟩, if x.do_ = 6 then x.list else ⟨none, 0, 0, []⟩⟩
theorem bareR_sp (x : Sr) : (bareR x).sp = bareP x.sp := by
  unfold bareR bareP Sr.sp
  simp only
  congr 1
  split <;> rfl
theorem bareR_ok {M : Mem} {x : Sr} (hx : SrOk M x) : SrOk M (bareR x) := by
  refine ⟨?_, ?_⟩
  · unfold bareR
    simp only
    split
    · exact hx.list
    · exact ⟨⟨rfl, (fun _ h => by cases h), .inl rfl⟩, by show (0 : Nat) < 1000000; decide⟩
  · unfold bareR
    simp only
    split
    · exact hx.text
    · show (0 : Nat) < _; decide
theorem lineE_sz {t : ByteArray} (ht : t.size < 1000000) : (lineE t).1.size ≤ 1376256 := by
  unfold lineE
  by_cases h0 : mayB t = true
  · rw [if_pos h0]
    obtain ⟨hT, hz2⟩ := (mayB_iff (by omega)).1 h0
    have := line_size 16 (Nat.le_refl _) t hT (by omega)
    generalize lineB 16 t = u at *
    exact Nat.le_trans this (by omega)
  · rw [if_neg h0]; exact Nat.zero_le _
set_option maxHeartbeats 16000000 in
theorem refStep_ok (M : Mem) (L : HL) (hG : G38 M) (x : Sr) (hx : SrOk M x) (hp : SpP x.sp) : TrQ Tryz.prog 79 [.agg ⟨srC x⟩] M L (.tuple ⟨[.string (stepT x.sp), .agg ⟨srC (bareR x)⟩]⟩) := by
  have ha := hp.a
  have hb := hp.b
  have hc := hp.c
  have hn := hp.n
  have h1d := hp.do_
  have hlist := hp.list
  have h32 := hp.len
  have htx : x.text.size ≤ 1024 := hp.text
  have hIn := hx.list
  obtain ⟨d, a, b, c, n, tx, li⟩ := x
  simp only [Sr.sp] at ha hb hc hn h1d hlist h32 htx hIn
  have h9 : d = 1 ∨ d = 2 ∨ d = 3 ∨ d = 4 ∨ d = 5 ∨ d = 6 ∨ d = 7 ∨ d = 8 ∨ d = 9 := by omega
  have one : ∀ (v : Int), nmW v = true → ∀ u ∈ [v], nmW u = true := fun v h u hu => by obtain rfl := List.mem_singleton.1 hu; exact h
  have two : ∀ (v w : Int), nmW v = true → nmW w = true → ∀ u ∈ [v, w], nmW u = true := fun v w h h' u hu => by
    rcases List.mem_cons.1 hu with rfl | hu
    · exact h
    · exact one w h' u hu
  have three : ∀ (v w z : Int), nmW v = true → nmW w = true → nmW z = true → ∀ u ∈ [v, w, z], nmW u = true := fun v w z h h' h'' u hu => by
    rcases List.mem_cons.1 hu with rfl | hu
    · exact h
    · exact two w z h' h'' u hu
  have fs1 : ∀ (x : Sp) (o : Nat), fsB x [o] = rwB [getF x o] := fun _ _ => rfl
  have fs2 : ∀ (x : Sp) (o o2 : Nat), fsB x [o, o2] = rwB [getF x o, getF x o2] := fun _ _ _ => rfl
  have fs3 : ∀ (x : Sp) (o o2 o3 : Nat), fsB x [o, o2, o3] = rwB [getF x o, getF x o2, getF x o3] := fun _ _ _ _ => rfl
  rcases h9 with rfl | rfl | rfl | rfl | rfl | rfl | rfl | rfl | rfl
  · have he : stepT ⟨1, a, b, c, n, tx, li.xs⟩ = wSeen ++ rwB [n] := app_nil _
    simp only [Sr.sp]
    rw [he]
    refine Tr.intro 135 Tryz.func79 rfl rfl Tryz.call79 rfl ?_; intro C hC hro
    repeat (first | refine yy ?_ | refine yx fun _ => ?_ | refine run_cond (t := true) rfl (fun _ => ?_) (fun h => by cases h) | refine run_cond (t := false) rfl (fun h => by cases h) (fun _ => ?_))
    refine dd ?_
    refine qqx 0 ?_
    refine qqx 1 ?_
    refine qqx 4 ?_
    refine qqx 5 ?_
    refine qqx 6 ?_
    refine qqx 7 ?_
    refine qqx 8 ?_
    refine pr_one 2 (by decide +kernel) (eff1 2 rfl (st_buildSlice tok rfl rfl rfl rfl rfl rfl rfl) (by decide +kernel) rfl rfl rfl rfl ?_)
    rintro _ _ _ ⟨bl, rfl, rfl, rfl⟩
    refine ppx ?_
    refine qqc 3 (numsL_ok _ _ hG wSeen _ 1 [n] _ rfl List.mem_cons_self rfl (one _ hn) (by decide) (show 1 ≤ 32 by decide)) ?_
    refine pr_one 9 (by decide +kernel) (eff1 9 rfl (qt_pev tok rfl) (by decide +kernel) rfl rfl rfl rfl ?_)
    rintro _ _ _ ⟨rfl, rfl, rfl⟩
    refine ppx ?_
    refine pr_one 10 (by decide +kernel) (eff0 10 rfl (sst tok rfl rfl rfl rfl rfl) (by decide +kernel) rfl ?_)
    rintro _ _ _ ⟨rfl, rfl, rfl⟩
    refine ppx ?_
    refine pr_end (by decide +kernel) (by decide +kernel) ?_
    repeat (first | refine yy ?_ | refine yx fun _ => ?_)
    exact run_ret hC (rs := [.tmp 2, .cell 3 60]) rfl (resT rfl (rl tok rfl resN)) (fun _ h => h.drop.drop.drop) ⟨rfl, rfl, rfl⟩
  · have hdz := dataE_sz (s := tx)
    have he : stepT ⟨2, a, b, c, n, tx, li.xs⟩ = (wData ++ sp1) ++ (lineE (dataE tx).1).1 := by
      show ((wData ++ ⟨#[]⟩) ++ (sp1 ++ _)) = _
      rw [app_nil, ← app_assoc]
    have hq := fun L => refLine_ok M L (dataE tx).1 (by omega)
    have hlz := lineE_sz (t := (dataE tx).1) (by omega)
    simp only [Sr.sp]
    rw [he]
    clear he
    generalize lineE (dataE tx).1 = e at *
    have hcc : (wData ++ sp1).size + e.1.size < 4611686018427387904 := by show 5 + _ < _; omega
    refine Tr.intro 135 Tryz.func79 rfl rfl Tryz.call79 rfl ?_; intro C hC hro
    repeat (first | refine yy ?_ | refine dd ?_ | refine yd ?_ | refine yx fun _ => ?_ | refine run_cond (t := true) rfl (fun _ => ?_) (fun h => by cases h) | refine run_cond (t := false) rfl (fun h => by cases h) (fun _ => ?_) | refine qc (refData_ok _ _ tx (by omega)) ?_ | refine qc (hq _) ?_ | refine pq rfl (qt_concat rfl rfl hcc) ?_)
    exact run_ret hC (rs := [.tmp 2, .cell 3 60]) rfl (resT rfl (rl tok rfl resN)) (fun _ h => h.drop.drop) ⟨rfl, rfl, rfl⟩
  · have he : stepT ⟨3, a, b, c, n, tx, li.xs⟩ = wPart ++ rwB [a, n] := app_nil _
    simp only [Sr.sp]
    rw [he]
    refine Tr.intro 135 Tryz.func79 rfl rfl Tryz.call79 rfl ?_; intro C hC hro
    repeat (first | refine yy ?_ | refine yx fun _ => ?_ | refine run_cond (t := true) rfl (fun _ => ?_) (fun h => by cases h) | refine run_cond (t := false) rfl (fun h => by cases h) (fun _ => ?_))
    refine dd ?_
    refine qqx 0 ?_
    refine qqx 1 ?_
    refine qqx 2 ?_
    refine qqx 3 ?_
    refine qqx 6 ?_
    refine qqx 7 ?_
    refine qqx 8 ?_
    refine qqx 9 ?_
    refine qqx 10 ?_
    refine qqx 11 ?_
    refine qqx 12 ?_
    refine pr_one 4 (by decide +kernel) (eff1 4 rfl (st_buildSlice tok rfl rfl rfl rfl rfl rfl rfl) (by decide +kernel) rfl rfl rfl rfl ?_)
    rintro _ _ _ ⟨bl, rfl, rfl, rfl⟩
    refine ppx ?_
    refine qqc 5 (numsL_ok _ _ hG wPart _ 2 [a, n] _ rfl List.mem_cons_self rfl (two _ _ ha hn) (by decide) (show 2 ≤ 32 by decide)) ?_
    refine pr_one 13 (by decide +kernel) (eff1 13 rfl (qt_pev tok rfl) (by decide +kernel) rfl rfl rfl rfl ?_)
    rintro _ _ _ ⟨rfl, rfl, rfl⟩
    refine ppx ?_
    refine pr_one 14 (by decide +kernel) (eff0 14 rfl (sst tok rfl rfl rfl rfl rfl) (by decide +kernel) rfl ?_)
    rintro _ _ _ ⟨rfl, rfl, rfl⟩
    refine ppx ?_
    refine pr_end (by decide +kernel) (by decide +kernel) ?_
    repeat (first | refine yy ?_ | refine yx fun _ => ?_)
    exact run_ret hC (rs := [.tmp 2, .cell 3 60]) rfl (resT rfl (rl tok rfl resN)) (fun _ h => h.drop.drop.drop) ⟨rfl, rfl, rfl⟩
  · have he : stepT ⟨4, a, b, c, n, tx, li.xs⟩ = wNonce ++ rwB [a] := app_nil _
    simp only [Sr.sp]
    rw [he]
    refine Tr.intro 135 Tryz.func79 rfl rfl Tryz.call79 rfl ?_; intro C hC hro
    repeat (first | refine yy ?_ | refine yx fun _ => ?_ | refine run_cond (t := true) rfl (fun _ => ?_) (fun h => by cases h) | refine run_cond (t := false) rfl (fun h => by cases h) (fun _ => ?_))
    refine dd ?_
    refine qqx 0 ?_
    refine qqx 1 ?_
    refine qqx 4 ?_
    refine qqx 5 ?_
    refine qqx 6 ?_
    refine qqx 7 ?_
    refine qqx 8 ?_
    refine pr_one 2 (by decide +kernel) (eff1 2 rfl (st_buildSlice tok rfl rfl rfl rfl rfl rfl rfl) (by decide +kernel) rfl rfl rfl rfl ?_)
    rintro _ _ _ ⟨bl, rfl, rfl, rfl⟩
    refine ppx ?_
    refine qqc 3 (numsL_ok _ _ hG wNonce _ 1 [a] _ rfl List.mem_cons_self rfl (one _ ha) (by decide) (show 1 ≤ 32 by decide)) ?_
    refine pr_one 9 (by decide +kernel) (eff1 9 rfl (qt_pev tok rfl) (by decide +kernel) rfl rfl rfl rfl ?_)
    rintro _ _ _ ⟨rfl, rfl, rfl⟩
    refine ppx ?_
    refine pr_one 10 (by decide +kernel) (eff0 10 rfl (sst tok rfl rfl rfl rfl rfl) (by decide +kernel) rfl ?_)
    rintro _ _ _ ⟨rfl, rfl, rfl⟩
    refine ppx ?_
    refine pr_end (by decide +kernel) (by decide +kernel) ?_
    repeat (first | refine yy ?_ | refine yx fun _ => ?_)
    exact run_ret hC (rs := [.tmp 2, .cell 3 60]) rfl (resT rfl (rl tok rfl resN)) (fun _ h => h.drop.drop.drop) ⟨rfl, rfl, rfl⟩
  · have he : stepT ⟨5, a, b, c, n, tx, li.xs⟩ = wBody ++ rwB [a, b] := app_nil _
    simp only [Sr.sp]
    rw [he]
    refine Tr.intro 135 Tryz.func79 rfl rfl Tryz.call79 rfl ?_; intro C hC hro
    repeat (first | refine yy ?_ | refine yx fun _ => ?_ | refine run_cond (t := true) rfl (fun _ => ?_) (fun h => by cases h) | refine run_cond (t := false) rfl (fun h => by cases h) (fun _ => ?_))
    refine dd ?_
    refine qqx 0 ?_
    refine qqx 1 ?_
    refine qqx 2 ?_
    refine qqx 3 ?_
    refine qqx 6 ?_
    refine qqx 7 ?_
    refine qqx 8 ?_
    refine qqx 9 ?_
    refine qqx 10 ?_
    refine qqx 11 ?_
    refine qqx 12 ?_
    refine pr_one 4 (by decide +kernel) (eff1 4 rfl (st_buildSlice tok rfl rfl rfl rfl rfl rfl rfl) (by decide +kernel) rfl rfl rfl rfl ?_)
    rintro _ _ _ ⟨bl, rfl, rfl, rfl⟩
    refine ppx ?_
    refine qqc 5 (numsL_ok _ _ hG wBody _ 2 [a, b] _ rfl List.mem_cons_self rfl (two _ _ ha hb) (by decide) (show 2 ≤ 32 by decide)) ?_
    refine pr_one 13 (by decide +kernel) (eff1 13 rfl (qt_pev tok rfl) (by decide +kernel) rfl rfl rfl rfl ?_)
    rintro _ _ _ ⟨rfl, rfl, rfl⟩
    refine ppx ?_
    refine pr_one 14 (by decide +kernel) (eff0 14 rfl (sst tok rfl rfl rfl rfl rfl) (by decide +kernel) rfl ?_)
    rintro _ _ _ ⟨rfl, rfl, rfl⟩
    refine ppx ?_
    refine pr_end (by decide +kernel) (by decide +kernel) ?_
    repeat (first | refine yy ?_ | refine yx fun _ => ?_)
    exact run_ret hC (rs := [.tmp 2, .cell 3 60]) rfl (resT rfl (rl tok rfl resN)) (fun _ h => h.drop.drop.drop) ⟨rfl, rfl, rfl⟩
  · have he : stepT ⟨6, a, b, c, n, tx, li.xs⟩ = wRow ++ rwB li.xs := by
      show ((wRow ++ ⟨#[]⟩) ++ _) = _
      rw [app_nil]; rfl
    simp only [Sr.sp]
    rw [he]
    refine Tr.intro 135 Tryz.func79 rfl rfl Tryz.call79 rfl ?_; intro C hC hro
    repeat (first | refine yy ?_ | refine dd ?_ | refine yd ?_ | refine yx fun _ => ?_ | refine run_cond (t := true) rfl (fun _ => ?_) (fun h => by cases h) | refine run_cond (t := false) rfl (fun h => by cases h) (fun _ => ?_) | refine pc (rnums_ok _ _ hG wRow li hIn hlist (by decide) h32) ?_)
    exact run_ret hC (rs := [.tmp 2, .cell 3 60]) rfl (resT rfl (rl tok rfl resN)) (fun _ h => h.drop.drop) ⟨rfl, rfl, rfl⟩
  · have he : stepT ⟨7, a, b, c, n, tx, li.xs⟩ = wHash ++ rwB [a] := app_nil _
    simp only [Sr.sp]
    rw [he]
    refine Tr.intro 135 Tryz.func79 rfl rfl Tryz.call79 rfl ?_; intro C hC hro
    repeat (first | refine yy ?_ | refine yx fun _ => ?_ | refine run_cond (t := true) rfl (fun _ => ?_) (fun h => by cases h) | refine run_cond (t := false) rfl (fun h => by cases h) (fun _ => ?_))
    refine dd ?_
    refine qqx 0 ?_
    refine qqx 1 ?_
    refine qqx 4 ?_
    refine qqx 5 ?_
    refine qqx 6 ?_
    refine qqx 7 ?_
    refine qqx 8 ?_
    refine pr_one 2 (by decide +kernel) (eff1 2 rfl (st_buildSlice tok rfl rfl rfl rfl rfl rfl rfl) (by decide +kernel) rfl rfl rfl rfl ?_)
    rintro _ _ _ ⟨bl, rfl, rfl, rfl⟩
    refine ppx ?_
    refine qqc 3 (numsL_ok _ _ hG wHash _ 1 [a] _ rfl List.mem_cons_self rfl (one _ ha) (by decide) (show 1 ≤ 32 by decide)) ?_
    refine pr_one 9 (by decide +kernel) (eff1 9 rfl (qt_pev tok rfl) (by decide +kernel) rfl rfl rfl rfl ?_)
    rintro _ _ _ ⟨rfl, rfl, rfl⟩
    refine ppx ?_
    refine pr_one 10 (by decide +kernel) (eff0 10 rfl (sst tok rfl rfl rfl rfl rfl) (by decide +kernel) rfl ?_)
    rintro _ _ _ ⟨rfl, rfl, rfl⟩
    refine ppx ?_
    refine pr_end (by decide +kernel) (by decide +kernel) ?_
    repeat (first | refine yy ?_ | refine yx fun _ => ?_)
    exact run_ret hC (rs := [.tmp 2, .cell 3 60]) rfl (resT rfl (rl tok rfl resN)) (fun _ h => h.drop.drop.drop) ⟨rfl, rfl, rfl⟩
  · have he : stepT ⟨8, a, b, c, n, tx, li.xs⟩ = wMac ++ rwB [a, b] := app_nil _
    simp only [Sr.sp]
    rw [he]
    refine Tr.intro 135 Tryz.func79 rfl rfl Tryz.call79 rfl ?_; intro C hC hro
    repeat (first | refine yy ?_ | refine yx fun _ => ?_ | refine run_cond (t := true) rfl (fun _ => ?_) (fun h => by cases h) | refine run_cond (t := false) rfl (fun h => by cases h) (fun _ => ?_))
    refine dd ?_
    refine qqx 0 ?_
    refine qqx 1 ?_
    refine qqx 2 ?_
    refine qqx 3 ?_
    refine qqx 6 ?_
    refine qqx 7 ?_
    refine qqx 8 ?_
    refine qqx 9 ?_
    refine qqx 10 ?_
    refine qqx 11 ?_
    refine qqx 12 ?_
    refine pr_one 4 (by decide +kernel) (eff1 4 rfl (st_buildSlice tok rfl rfl rfl rfl rfl rfl rfl) (by decide +kernel) rfl rfl rfl rfl ?_)
    rintro _ _ _ ⟨bl, rfl, rfl, rfl⟩
    refine ppx ?_
    refine qqc 5 (numsL_ok _ _ hG wMac _ 2 [a, b] _ rfl List.mem_cons_self rfl (two _ _ ha hb) (by decide) (show 2 ≤ 32 by decide)) ?_
    refine pr_one 13 (by decide +kernel) (eff1 13 rfl (qt_pev tok rfl) (by decide +kernel) rfl rfl rfl rfl ?_)
    rintro _ _ _ ⟨rfl, rfl, rfl⟩
    refine ppx ?_
    refine pr_one 14 (by decide +kernel) (eff0 14 rfl (sst tok rfl rfl rfl rfl rfl) (by decide +kernel) rfl ?_)
    rintro _ _ _ ⟨rfl, rfl, rfl⟩
    refine ppx ?_
    refine pr_end (by decide +kernel) (by decide +kernel) ?_
    repeat (first | refine yy ?_ | refine yx fun _ => ?_)
    exact run_ret hC (rs := [.tmp 2, .cell 3 60]) rfl (resT rfl (rl tok rfl resN)) (fun _ h => h.drop.drop.drop) ⟨rfl, rfl, rfl⟩
  · have he : stepT ⟨9, a, b, c, n, tx, li.xs⟩ = wSeal ++ rwB [a, b, c] := app_nil _
    simp only [Sr.sp]
    rw [he]
    refine Tr.intro 135 Tryz.func79 rfl rfl Tryz.call79 rfl ?_; intro C hC hro
    repeat (first | refine yy ?_ | refine yx fun _ => ?_ | refine run_cond (t := true) rfl (fun _ => ?_) (fun h => by cases h) | refine run_cond (t := false) rfl (fun h => by cases h) (fun _ => ?_))
    refine dd ?_
    refine qqx 0 ?_
    refine qqx 1 ?_
    refine qqx 2 ?_
    refine qqx 3 ?_
    refine qqx 4 ?_
    refine qqx 5 ?_
    refine qqx 8 ?_
    refine qqx 9 ?_
    refine qqx 10 ?_
    refine qqx 11 ?_
    refine qqx 12 ?_
    refine qqx 13 ?_
    refine qqx 14 ?_
    refine qqx 15 ?_
    refine qqx 16 ?_
    refine pr_one 6 (by decide +kernel) (eff1 6 rfl (st_buildSlice tok rfl rfl rfl rfl rfl rfl rfl) (by decide +kernel) rfl rfl rfl rfl ?_)
    rintro _ _ _ ⟨bl, rfl, rfl, rfl⟩
    refine ppx ?_
    refine qqc 7 (numsL_ok _ _ hG wSeal _ 3 [a, b, c] _ rfl List.mem_cons_self rfl (three _ _ _ ha hb hc) (by decide) (show 3 ≤ 32 by decide)) ?_
    refine pr_one 17 (by decide +kernel) (eff1 17 rfl (qt_pev tok rfl) (by decide +kernel) rfl rfl rfl rfl ?_)
    rintro _ _ _ ⟨rfl, rfl, rfl⟩
    refine ppx ?_
    refine pr_one 18 (by decide +kernel) (eff0 18 rfl (sst tok rfl rfl rfl rfl rfl) (by decide +kernel) rfl ?_)
    rintro _ _ _ ⟨rfl, rfl, rfl⟩
    refine ppx ?_
    refine pr_end (by decide +kernel) (by decide +kernel) ?_
    repeat (first | refine yy ?_ | refine yx fun _ => ?_)
    exact run_ret hC (rs := [.tmp 2, .cell 3 60]) rfl (resT rfl (rl tok rfl resN)) (fun _ h => h.drop.drop.drop) ⟨rfl, rfl, rfl⟩
end Go.Proofs.YtladcmfbkiogbaaGreatDoor
namespace Go.Proofs.YtladcmfbkiogbaaGreatDoor
open Go.Chi
set_option maxRecDepth 10000
set_option maxRecDepth 10000
theorem script_ok (M : Mem) (L : HL) (r : Int) : TrQ Tryz.prog 88 [.int .i32 r] M L (.int .u8 (ofR r)) := by
  refine Tr.intro 21 Tryz.func88 rfl rfl Tryz.call88 rfl ?_; intro C hC hro
  repeat (first | refine yy ?_ | refine yx fun _ => ?_)
  refine run_cond (t := decide (r ≥ 97) && decide (r ≤ 122)) rfl (fun h => ?_) (fun h => ?_)
  · simp only [Bool.and_eq_true, decide_eq_true_eq] at h
    repeat (first | refine yy ?_ | refine yx fun _ => ?_)
    exact run_ret hC (rs := [.tmp 2]) rfl (resT rfl resN) (fun _ h => h) ⟨by rw [ofR, if_pos h]; rfl, rfl, rfl⟩
  simp only [Bool.and_eq_false_iff, decide_eq_false_iff_not] at h
  have h1 : ¬ (97 ≤ r ∧ r ≤ 122) := by omega
  repeat (first | refine yy ?_ | refine yx fun _ => ?_)
  refine run_cond (t := decide (r ≥ 945) && decide (r ≤ 969)) rfl (fun h => ?_) (fun h => ?_)
  · simp only [Bool.and_eq_true, decide_eq_true_eq] at h
    repeat (first | refine yy ?_ | refine yx fun _ => ?_)
    exact run_ret hC (rs := [.tmp 2]) rfl (resT rfl resN) (fun _ h => h) ⟨by rw [ofR, if_neg h1, if_pos h]; rfl, rfl, rfl⟩
  simp only [Bool.and_eq_false_iff, decide_eq_false_iff_not] at h
  have h2 : ¬ (945 ≤ r ∧ r ≤ 969) := by omega
  repeat (first | refine yy ?_ | refine yx fun _ => ?_)
  refine run_cond (t := decide (r ≥ 1072) && decide (r ≤ 1103)) rfl (fun h => ?_) (fun h => ?_)
  · simp only [Bool.and_eq_true, decide_eq_true_eq] at h
    repeat (first | refine yy ?_ | refine yx fun _ => ?_)
    exact run_ret hC (rs := [.tmp 2]) rfl (resT rfl resN) (fun _ h => h) ⟨by rw [ofR, if_neg h1, if_neg h2, if_pos h]; rfl, rfl, rfl⟩
  simp only [Bool.and_eq_false_iff, decide_eq_false_iff_not] at h
  repeat (first | refine yy ?_ | refine yx fun _ => ?_)
  exact run_ret hC (rs := [.tmp 2]) rfl (resT rfl resN) (fun _ h => h) ⟨by rw [ofR, if_neg h1, if_neg h2, if_neg (by omega)]; rfl, rfl, rfl⟩
def signR (r : Int) : Bool := (decide (r ≥ 48) && decide (r ≤ 57)) || (r == 45)
theorem sign_ok (M : Mem) (L : HL) (r : Int) : TrQ Tryz.prog 89 [.int .i32 r] M L (.bool (signR r)) := by
  refine Tr.intro 13 Tryz.func89 rfl rfl Tryz.call89 rfl ?_; intro C hC hro
  repeat (first | refine yk ?_ | refine yx fun _ => ?_)
  exact run_ret hC (rs := [.tmp 2]) rfl (resT rfl resN) (fun _ h => h) ⟨rfl, rfl, rfl⟩
theorem iC_flat (xs : List Int) : (xs.map iC).flatten = xs.map (Value.int .i32) := by
  induction xs with
  | nil => rfl
  | cons y l ih => rw [List.map_cons, List.flatten_cons, ih]; rfl
theorem run_frzOS {C : Cx} {n : Nat} {k : List Item} {ds : List Deferred} {σ : Env} {M : Mem} {L N : HL} {a : Option Addr} {c m : Nat} {xs : List Int} (hO : OS 21 1 (.slice a m c) m (xs.map (Value.int .i32)) N) (hm : m = xs.length)
    (h : ∀ M1, M.le M1 → SlM M1 1 a m (xs.map iC) → Run Tryz.prog C n k ds σ M1 L) : Run Tryz.prog C n k ds σ M (N ++ L) := by
  subst hm
  rcases hO with ⟨hv, h0, hx, rfl⟩ | ⟨b, cap, cs, hv, rfl, hle, hcl, hcs⟩
  · injection hv with e1 e2 e3
    subst e1
    have hx : xs = [] := List.map_eq_nil_iff.1 hx
    subst hx
    exact h M (Mem.le_refl _) ⟨rfl, (fun _ h => by cases h), .inl rfl⟩
  · injection hv with e1 e2 e3
    subst e1
    refine run_frzL [_] fun M1 hM1 hb => h M1 hM1 ?_
    have hb0 := hb _ List.mem_cons_self
    refine ⟨by rw [List.length_map], (fun l hl => by obtain ⟨x, _, rfl⟩ := List.mem_map.1 hl; rfl), .inr ⟨b, 0, rfl, fun i c hc => ⟨_, _, _, .inr hb0, fun k v hv => ?_⟩⟩⟩
    have := flat_at (fun l hl => by obtain ⟨x, _, rfl⟩ := List.mem_map.1 hl; rfl) hc hv
    rw [iC_flat, ← hcs] at this
    rw [Nat.mul_one] at this
    rw [List.getElem?_toArray, Nat.zero_add]
    have h3 := (List.getElem?_eq_some_iff.1 this).1
    rw [List.getElem?_take] at this
    split at this
    · exact this
    · cases this
end Go.Proofs.YtladcmfbkiogbaaGreatDoor
namespace Go.Proofs.YtladcmfbkiogbaaGreatDoor
open Go.Chi
set_option maxRecDepth 10000
set_option maxRecDepth 10000
def badI (r : Int) : Bool := (ofR r == 0) && !signR r
structure NameI (xs : List Int) : Prop where
  len : xs.length ≤ 24
  pos : xs ≠ []
  fst : xs[0]? ≠ some 45
  lst : xs[xs.length - 1]? ≠ some 45
  each : ∀ x ∈ xs, badI x = false
  one : ∀ x ∈ xs, ∀ y ∈ xs, ofR x ≠ 0 → ofR y ≠ 0 → ofR x = ofR y
def mixI (x y : Int) : Bool := ((ofR x != 0) && (ofR y != 0)) && (ofR x != ofR y)
def refN (xs : List Int) : Int := if 24 < xs.length then 5 else if xs = [] ∨ xs[0]? = some 45 ∨ xs[xs.length - 1]? = some 45 then 7 else if xs.any badI = true then 7 else if (xs.any fun x => xs.any fun y => mixI x y) = true then 50 else 0
theorem refN_zero (xs : List Int) : refN xs = 0 ↔ NameI xs := by
  unfold refN
  by_cases h1 : 24 < xs.length
  · rw [if_pos h1]; exact ⟨fun h => absurd h (by decide), fun h => by have := h.len; omega⟩
  rw [if_neg h1]
  by_cases h2 : xs = [] ∨ xs[0]? = some 45 ∨ xs[xs.length - 1]? = some 45
  · rw [if_pos h2]
    refine ⟨fun h => absurd h (by decide), fun h => ?_⟩
    rcases h2 with e | e | e
    · exact absurd e h.pos
    · exact absurd e h.fst
    · exact absurd e h.lst
  rw [if_neg h2]
  by_cases h3 : xs.any badI = true
  · rw [if_pos h3]
    refine ⟨fun h => absurd h (by decide), fun h => ?_⟩
    obtain ⟨x, hx, hb⟩ := List.any_eq_true.1 h3
    rw [h.each x hx] at hb; cases hb
  rw [if_neg h3]
  by_cases h4 : (xs.any fun x => xs.any fun y => mixI x y) = true
  · rw [if_pos h4]
    refine ⟨fun h => absurd h (by decide), fun h => ?_⟩
    obtain ⟨x, hx, hb⟩ := List.any_eq_true.1 h4
    obtain ⟨y, hy, hb⟩ := List.any_eq_true.1 hb
    simp only [mixI, Bool.and_eq_true, bne_iff_ne] at hb
    exact absurd (h.one x hx y hy hb.1.1 hb.1.2) hb.2
  rw [if_neg h4]
  refine ⟨fun _ => ⟨by omega, fun e => h2 (.inl e), fun e => h2 (.inr (.inl e)), fun e => h2 (.inr (.inr e)), fun x hx => ?_, fun x hx y hy e1 e2 => ?_⟩, fun _ => rfl⟩
  · cases hb : badI x with
    | false => rfl
    | true => exact absurd (List.any_eq_true.2 ⟨x, hx, hb⟩) h3
  · refine Classical.byContradiction fun e3 => h4 (List.any_eq_true.2 ⟨x, hx, List.any_eq_true.2 ⟨y, hy, ?_⟩⟩)
    simp [mixI, e1, e2, e3]
set_option maxHeartbeats 8000000 in
theorem refCheckN_ok (M : Mem) (L : HL) (s : ByteArray) (hs : s.size < 1000000) : TrQ Tryz.prog 50 [.string s] M L (.int .i64 (refN (runI s))) := by
  have hlen := runI_len s
  refine Tr.intro 88 Tryz.func50 rfl rfl Tryz.call50 rfl ?_; intro C hC hro
  repeat (first | refine yy ?_ | refine yx fun _ => ?_ | (refine oc (refRunes_ok _ _ s hs) ?_; rintro _ _ _ ⟨rfl, a, c, N, rfl, rfl, hO⟩))
  refine run_frzOS hO rfl fun M1 hM1 hsl => ?_
  generalize runI s = xs at *
  have hfin : ∀ {k : Int} {w}, refN xs = k → (∀ w, Hp M1 L w → Hp M L w) ∧ (w = Value.int .i64 k → w = .int .i64 (refN xs)) := fun h => ⟨fun _ h => h.of_le hM1, fun e => by rw [e, h]⟩
  repeat (first | refine yy ?_ | refine yx fun _ => ?_)
  refine run_cond (t := decide ((xs.length : Int) > 24)) rfl (fun h => ?_) (fun h => ?_)
  · have h := of_decide_eq_true h
    have he : refN xs = 5 := by rw [refN, if_pos (by omega)]
    repeat (first | refine yy ?_ | refine yx fun _ => ?_)
    exact run_ret hC (rs := [.tmp 2]) rfl (resT rfl resN) (fun _ h => h.of_le hM1) ⟨by rw [he]; rfl, rfl, rfl⟩
  have h24 : ¬ 24 < xs.length := by have := of_decide_eq_false h; omega
  clear h
  have h7 : xs = [] ∨ xs[0]? = some 45 ∨ xs[xs.length - 1]? = some 45 → refN xs = 7 := fun h => by rw [refN, if_neg h24, if_pos h]
  by_cases h0 : xs.length = 0
  · obtain rfl := List.length_eq_zero_iff.1 h0
    have he := h7 (.inl rfl)
    repeat (first | refine yk ?_ | refine yx fun _ => ?_)
    refine run_cond (t := true) rfl (fun _ => ?_) (fun h => by cases h)
    repeat (first | refine yy ?_ | refine yx fun _ => ?_)
    exact run_ret hC (rs := [.tmp 2]) rfl (resT rfl resN) (fun _ h => h.of_le hM1) ⟨by rw [he]; rfl, rfl, rfl⟩
  obtain ⟨b1, o1, x, rfl, hx1, hc1⟩ := SlC.at_ hsl (j := 0) (by omega)
  obtain ⟨b2, o2, y, e2, hy1, hc2⟩ := SlC.at_ hsl (j := xs.length - 1) (by omega)
  cases e2
  have hpos : 0 < xs.length := by omega
  have hw : IntKind.i64.wrap ((xs.length : Int) - 1) = ((xs.length - 1 : Nat) : Int) := by rw [show (xs.length : Int) - 1 = ((xs.length - 1 : Nat) : Int) by omega, wrap64_nat (by omega)]
  repeat (first | refine zc ?_ | refine vq ?_)
  refine runL_as 15 (.bool false) rfl (by congr 1; simpa using h0) ?_
  iterate 6 (first | refine yk ?_ | fail)
  by_cases h45 : x = 45
  · subst h45
    have he := h7 (.inr (.inl hx1))
    refine runL_as 21 (.bool true) rfl rfl ?_
    repeat (first | refine yk ?_ | refine yx fun _ => ?_)
    refine run_cond (t := true) rfl (fun _ => ?_) (fun h => by cases h)
    repeat (first | refine yy ?_ | refine yx fun _ => ?_)
    exact run_ret hC (rs := [.tmp 2]) rfl (resT rfl resN) (fun _ h => h.of_le hM1) ⟨by rw [he]; rfl, rfl, rfl⟩
  refine runL_as 21 (.bool false) rfl (by congr 1; simp only [Bool.or_eq_false_iff]; exact ⟨trivial, by simpa using h45⟩) ?_
  repeat (first | refine yk ?_ | refine yx fun _ => ?_)
  refine runL_as 25 (.int .i64 ((xs.length - 1 : Nat) : Int)) rfl (congrArg (Value.int .i64) hw) ?_
  repeat (first | refine yk ?_ | refine yx fun _ => ?_)
  by_cases h46 : y = 45
  · subst h46
    have he := h7 (.inr (.inr hy1))
    refine run_cond (t := true) (by congr 2) (fun _ => ?_) (fun h => by cases h)
    repeat (first | refine yy ?_ | refine yx fun _ => ?_)
    exact run_ret hC (rs := [.tmp 2]) rfl (resT rfl resN) (fun _ h => h.of_le hM1) ⟨by rw [he]; rfl, rfl, rfl⟩
  refine run_cond (t := false) (by
    have : (y == 45) = false := by simpa using h46
    first
    | exact congrArg (fun z => some (Value.bool z)) this
    | (show some (Value.bool (false || (y == 45))) = _; rw [this]; rfl)) (fun h => by cases h) (fun _ => ?_)
  have hn7 : ¬ (xs = [] ∨ xs[0]? = some 45 ∨ xs[xs.length - 1]? = some 45) := by
    rintro (e | e | e)
    · rw [e] at h0; exact h0 rfl
    · rw [hx1] at e; exact h45 (Option.some.inj e)
    · rw [hy1] at e; exact h46 (Option.some.inj e)
  have hr1 : refN xs = if xs.any badI = true then 7 else if (xs.any fun x => xs.any fun y => mixI x y) = true then 50 else 0 := by rw [refN, if_neg h24, if_neg hn7]
  clear h7 hfin
  repeat (first | refine yy ?_ | refine yx fun _ => ?_)
  refine run_loopN (fun j σ1 M2 L1 => j ≤ xs.length ∧ M1 = M2 ∧ L = L1 ∧ (xs.take j).any badI = false ∧ σ1 = [(4, iv j), (3, .slice (some ⟨b1, o1, none⟩) xs.length c)]) xs.length [(4, iv 0), (3, .slice (some ⟨b1, o1, none⟩) xs.length c)] ?_ ⟨Nat.zero_le _, rfl, rfl, rfl, rfl⟩ (fun j _ _ _ h => h.1) ?_
  · exact ⟨rfl, rfl, trivial⟩
  rintro j _ _ _ ⟨hj, rfl, rfl, hpre, rfl⟩ hnext
  repeat (first | refine yy ?_ | refine yx fun _ => ?_)
  refine run_cond (t := decide ((j : Int) < (xs.length : Int))) rfl (fun h => ?_) (fun h => ?_)
  · have hlt : j < xs.length := by have := of_decide_eq_true h; omega
    obtain ⟨b3, o3, z, e3, hz, hc3⟩ := SlC.at_ hsl hlt
    cases e3
    repeat (first | refine yy ?_ | refine yx fun _ => ?_ | refine qc (script_ok _ _ z) ?_ | refine gc (sign_ok _ _ z) ?_)
    refine run_cond (t := badI z) rfl (fun h => ?_) (fun h => ?_)
    · have he : refN xs = 7 := by rw [hr1, if_pos (List.any_eq_true.2 ⟨z, List.mem_of_getElem? hz, h⟩)]
      repeat (first | refine yy ?_ | refine yx fun _ => ?_)
      exact run_ret hC (rs := [.tmp 2]) rfl (resT rfl resN) (fun _ h => h.of_le hM1) ⟨by rw [he]; rfl, rfl, rfl⟩
    · repeat (first | refine yy ?_ | refine yx fun _ => ?_)
      refine run_sub' (hnext _ _ _ ⟨hlt, rfl, rfl, ?_, rfl⟩) ⟨lk_succ rfl (by omega), rfl, trivial⟩
      rw [take_snoc hz, List.any_append, hpre]; simpa using h
  have hge : j = xs.length := by have := of_decide_eq_false h; omega
  rw [hge, List.take_length] at hpre
  rw [if_neg (by rw [hpre]; decide)] at hr1
  clear hnext h
  repeat (first | refine yy ?_ | refine yx fun _ => ?_)
  refine run_loopN (fun j σ1 M2 L1 => j ≤ xs.length ∧ M1 = M2 ∧ L = L1 ∧ (∀ x ∈ xs.take j, ∀ y ∈ xs.take j, ofR x ≠ 0 → ofR y ≠ 0 → ofR x = ofR y) ∧ σ1 = [(5, iv j), (3, .slice (some ⟨b1, o1, none⟩) xs.length c)]) xs.length [(5, iv 0), (3, .slice (some ⟨b1, o1, none⟩) xs.length c)] ?_ ⟨Nat.zero_le _, rfl, rfl, (fun _ h => by cases h), rfl⟩ (fun j _ _ _ h => h.1) ?_
  · exact ⟨rfl, rfl, trivial⟩
  rintro i _ _ _ ⟨hi, rfl, rfl, hone, rfl⟩ hnext
  repeat (first | refine yy ?_ | refine yx fun _ => ?_)
  refine run_cond (t := decide ((i : Int) < (xs.length : Int))) rfl (fun h => ?_) (fun h => ?_)
  rotate_left
  · have hge : i = xs.length := by have := of_decide_eq_false h; omega
    rw [hge, List.take_length] at hone
    have he : refN xs = 0 := by
      rw [hr1, if_neg]
      intro h4
      obtain ⟨x, hx, hb⟩ := List.any_eq_true.1 h4
      obtain ⟨y, hy, hb⟩ := List.any_eq_true.1 hb
      simp only [mixI, Bool.and_eq_true, bne_iff_ne] at hb
      exact hb.2 (hone x hx y hy hb.1.1 hb.1.2)
    repeat (first | refine yy ?_ | refine yx fun _ => ?_)
    exact run_ret hC (rs := [.tmp 2]) rfl (resT rfl resN) (fun _ h => h.of_le hM1) ⟨by rw [he]; rfl, rfl, rfl⟩
  have hlt : i < xs.length := by have := of_decide_eq_true h; omega
  obtain ⟨b3, o3, z, e3, hz, hc3⟩ := SlC.at_ hsl hlt
  cases e3
  repeat (first | refine yy ?_ | refine yx fun _ => ?_)
  refine run_loopN (fun j σ1 M2 L1 => j ≤ i ∧ M1 = M2 ∧ L = L1 ∧ (∀ y ∈ xs.take j, ofR z ≠ 0 → ofR y ≠ 0 → ofR z = ofR y) ∧ σ1 = [(6, iv j), (5, iv i), (3, .slice (some ⟨b1, o1, none⟩) xs.length c)]) i [(6, iv 0), (5, iv i), (3, .slice (some ⟨b1, o1, none⟩) xs.length c)] ?_ ⟨Nat.zero_le _, rfl, rfl, (fun _ h => by cases h), rfl⟩ (fun j _ _ _ h => h.1) ?_
  · exact ⟨rfl, rfl, rfl, trivial⟩
  rintro j2 _ _ _ ⟨hj2, rfl, rfl, hin, rfl⟩ hnext2
  repeat (first | refine yy ?_ | refine yx fun _ => ?_)
  refine run_cond (t := decide ((j2 : Int) < (i : Int))) rfl (fun h => ?_) (fun h => ?_)
  · have hlt2 : j2 < i := by have := of_decide_eq_true h; omega
    obtain ⟨b4, o4, q, e4, hq, hc4⟩ := SlC.at_ hsl (show j2 < xs.length by omega)
    cases e4
    repeat (first | refine yy ?_ | refine dd ?_ | refine yd ?_ | refine yx fun _ => ?_ | refine pc (script_ok _ _ _) ?_ | refine pgc (script_ok _ _ _) ?_)
    refine run_cond (t := mixI z q) rfl (fun h => ?_) (fun h => ?_)
    · have he : refN xs = 50 := by rw [hr1, if_pos (List.any_eq_true.2 ⟨z, List.mem_of_getElem? hz, List.any_eq_true.2 ⟨q, List.mem_of_getElem? hq, h⟩⟩)]
      repeat (first | refine yy ?_ | refine yx fun _ => ?_)
      exact run_ret hC (rs := [.tmp 2]) rfl (resT rfl resN) (fun _ h => h.of_le hM1) ⟨by rw [he]; rfl, rfl, rfl⟩
    · repeat (first | refine yy ?_ | refine yx fun _ => ?_)
      refine run_sub' (hnext2 _ _ _ ⟨hlt2, rfl, rfl, fun y hy e1 e2 => ?_, rfl⟩) ⟨lk_succ rfl (by omega), rfl, rfl, trivial⟩
      rw [take_snoc hq] at hy
      rcases List.mem_append.1 hy with hy | hy
      · exact hin y hy e1 e2
      · rw [List.mem_singleton.1 hy] at e2 ⊢
        refine Classical.byContradiction fun e3 => ?_
        rw [mixI] at h
        simp [e1, e2, e3] at h
  · have hge : j2 = i := by have := of_decide_eq_false h; omega
    subst hge
    repeat (first | refine yy ?_ | refine yx fun _ => ?_)
    refine run_sub' (hnext _ _ _ ⟨hlt, rfl, rfl, fun x hx y hy e1 e2 => ?_, rfl⟩) ⟨lk_succ rfl (by omega), rfl, trivial⟩
    rw [take_snoc hz] at hx hy
    rcases List.mem_append.1 hx with hx | hx
    · rcases List.mem_append.1 hy with hy | hy
      · exact hone x hx y hy e1 e2
      · rw [List.mem_singleton.1 hy] at e2 ⊢
        exact (hin x hx e2 e1).symm
    · rw [List.mem_singleton.1 hx] at e1 ⊢
      rcases List.mem_append.1 hy with hy | hy
      · exact hin y hy e1 e2
      · rw [List.mem_singleton.1 hy]
end Go.Proofs.YtladcmfbkiogbaaGreatDoor
namespace Go.Proofs.YtladcmfbkiogbaaGreatDoor
open Go.Chi Go.Lib
set_option maxRecDepth 10000
theorem badI_odd (r : Nat) : badI (r : Int) = oddR r := by
  unfold badI signR oddR
  rw [Bool.eq_iff_iff]
  simp
  omega
theorem fst_err : ∀ (l : List Nat) (k e : Int), e ≠ 0 → (fstF l k e).2 ≠ 0
  | [], _, _, h => h
  | x :: l, k, e, h => by
    rw [fstF]
    split
    · show (7 : Int) ≠ 0; decide
    split
    · exact fst_err l _ _ h
    split
    · exact fst_err l _ _ (by decide)
    · exact fst_err l _ _ h
theorem fst_zero : ∀ (l : List Nat) (k : Int), (fstF l k 0).2 = 0 ↔ (∀ r ∈ l, oddR r = false) ∧ (k ≠ 0 → ∀ r ∈ l, ofR r ≠ 0 → ofR r = k) ∧ (k = 0 → ∀ r ∈ l, ∀ q ∈ l, ofR r ≠ 0 → ofR q ≠ 0 → ofR r = ofR q)
  | [], k => ⟨fun _ => ⟨(fun _ h => by cases h), (fun _ _ h => by cases h), (fun _ _ h => by cases h)⟩, fun _ => rfl⟩
  | x :: l, k => by
    rw [fstF]
    by_cases hx : oddR x = true
    · rw [if_pos hx]
      exact ⟨fun h => absurd h (show ¬ (7 : Int) = 0 by decide), fun h => by have := h.1 x List.mem_cons_self; rw [hx] at this; cases this⟩
    have hx' : oddR x = false := by simpa using hx
    rw [if_neg hx]
    by_cases hk : k = 0
    · subst hk
      rw [if_pos rfl, fst_zero l]
      by_cases ho : ofR x = 0
      · constructor
        · rintro ⟨h1, _, h3⟩
          refine ⟨fun r hr => ?_, fun h => absurd rfl h, fun _ r hr q hq e1 e2 => ?_⟩
          · rcases List.mem_cons.1 hr with rfl | hr
            · exact hx'
            · exact h1 r hr
          · rcases List.mem_cons.1 hr with rfl | hr
            · exact absurd ho e1
            rcases List.mem_cons.1 hq with rfl | hq
            · exact absurd ho e2
            exact h3 ho r hr q hq e1 e2
        · rintro ⟨h1, _, h3⟩
          exact ⟨fun r hr => h1 r (List.mem_cons_of_mem _ hr), fun h => absurd ho h, fun _ r hr q hq => h3 rfl r (List.mem_cons_of_mem _ hr) q (List.mem_cons_of_mem _ hq)⟩
      · constructor
        · rintro ⟨h1, h2, _⟩
          have h2 := h2 ho
          refine ⟨fun r hr => ?_, fun h => absurd rfl h, fun _ r hr q hq e1 e2 => ?_⟩
          · rcases List.mem_cons.1 hr with rfl | hr
            · exact hx'
            · exact h1 r hr
          · have k1 : ofR r = ofR x := by
              rcases List.mem_cons.1 hr with rfl | hr
              · rfl
              · exact h2 r hr e1
            have k2 : ofR q = ofR x := by
              rcases List.mem_cons.1 hq with rfl | hq
              · rfl
              · exact h2 q hq e2
            rw [k1, k2]
        · rintro ⟨h1, _, h3⟩
          exact ⟨fun r hr => h1 r (List.mem_cons_of_mem _ hr), fun _ r hr e1 => h3 rfl r (List.mem_cons_of_mem _ hr) x List.mem_cons_self e1 ho, fun h => absurd h ho⟩
    · rw [if_neg hk]
      by_cases ho : ofR x ≠ 0 ∧ ofR x ≠ k
      · rw [if_pos ho]
        exact ⟨fun h => absurd h (fst_err l k 50 (by decide)), fun h => absurd (h.2.1 hk x List.mem_cons_self ho.1) ho.2⟩
      · rw [if_neg ho, fst_zero l k]
        constructor
        · rintro ⟨h1, h2, _⟩
          refine ⟨fun r hr => ?_, fun _ r hr e1 => ?_, fun h => absurd h hk⟩
          · rcases List.mem_cons.1 hr with rfl | hr
            · exact hx'
            · exact h1 r hr
          · rcases List.mem_cons.1 hr with rfl | hr
            · exact Classical.byContradiction fun e => ho ⟨e1, e⟩
            · exact h2 hk r hr e1
        · rintro ⟨h1, h2, _⟩
          exact ⟨fun r hr => h1 r (List.mem_cons_of_mem _ hr), fun _ r hr => h2 hk r (List.mem_cons_of_mem _ hr), fun h => absurd h hk⟩
theorem dec_end {n b0 b1 b2 b3 : Nat} (hn : 1 ≤ n) : (decodeN n b0 b1 b2 b3).2 ≤ n ∧ ((decodeN n b0 b1 b2 b3).1 = 45 ↔ b0 = 45) ∧ ∃ v, ((decodeN n b0 b1 b2 b3).1 = 45 ↔ v = 45) ∧ ((decodeN n b0 b1 b2 b3).2 = 1 → v = b0) ∧ ((decodeN n b0 b1 b2 b3).2 = 2 → v = b1) ∧ ((decodeN n b0 b1 b2 b3).2 = 3 → v = b2) ∧ ((decodeN n b0 b1 b2 b3).2 = 4 → v = b3) ∧ (decodeN n b0 b1 b2 b3).2 ≤ 4 := by
  unfold decodeN
  by_cases k0 : b0 < 128
  · rw [if_pos k0]; exact ⟨hn, Iff.rfl, b0, Iff.rfl, (fun _ => rfl), (fun h => by cases h), (fun h => by cases h), (fun h => by cases h), show 1 ≤ 4 by decide⟩
  rw [if_neg k0]
  have one : (1 ≤ n) ∧ ((65533 : Nat) = 45 ↔ b0 = 45) ∧ ∃ v, ((65533 : Nat) = 45 ↔ v = 45) ∧ ((1 : Nat) = 1 → v = b0) ∧ ((1 : Nat) = 2 → v = b1) ∧ ((1 : Nat) = 3 → v = b2) ∧ ((1 : Nat) = 4 → v = b3) ∧ (1 : Nat) ≤ 4 :=
    ⟨hn, by omega, b0, by omega, (fun _ => rfl), (fun h => by cases h), (fun h => by cases h), (fun h => by cases h), by decide⟩
  split
  · rename_i h
    split
    · exact ⟨by show 2 ≤ n; omega, by show _ = 45 ↔ _; omega, b1, by show _ = 45 ↔ _; omega, (fun h => by cases h), (fun _ => rfl), (fun h => by cases h), (fun h => by cases h), by show 2 ≤ 4; decide⟩
    · exact one
  split
  · rename_i h
    split
    · rename_i h2
      exact ⟨by show 3 ≤ n; omega, by show _ = 45 ↔ _; omega, b2, by show _ = 45 ↔ _; omega, (fun h => by cases h), (fun h => by cases h), (fun _ => rfl), (fun h => by cases h), by show 3 ≤ 4; decide⟩
    · exact one
  split
  · rename_i h
    split
    · rename_i h2
      exact ⟨by show 4 ≤ n; omega, by show _ = 45 ↔ _; omega, b3, by show _ = 45 ↔ _; omega, (fun h => by cases h), (fun h => by cases h), (fun h => by cases h), (fun _ => rfl), by show 4 ≤ 4; decide⟩
    · exact one
  · exact one
theorem get_byteI {s : ByteArray} {i : Nat} (h : i < s.size) : byteI s i = ((s.get! i).toNat : Int) := by
  have h1 : i < s.data.size := h
  have : s[i]? = some (s.get! i) := by
    show s[i]? = some (s.data[i]!)
    rw [getElem?_pos s i h, getElem!_pos s.data i h1]; rfl
  rw [byteI, this]; rfl
theorem dec_first {s : ByteArray} {p : Nat} (h : p < s.size) : (Utf8.decode s p).1 = 45 ↔ byteI s p = 45 := by
  have := (dec_end (n := s.size - p) (b0 := (s.get! p).toNat) (b1 := (s.get! (p + 1)).toNat) (b2 := (s.get! (p + 2)).toNat) (b3 := (s.get! (p + 3)).toNat) (by omega)).2.1
  rw [← decode_at] at this
  rw [this, get_byteI h]; omega
theorem dec_last {s : ByteArray} {p : Nat} (h : p < s.size) : p + (Utf8.decode s p).2 ≤ s.size ∧ ((Utf8.decode s p).1 = 45 ↔ byteI s (p + (Utf8.decode s p).2 - 1) = 45) := by
  have hw := decode_wide s h
  obtain ⟨h1, _, v, h2, e1, e2, e3, e4, h4⟩ := dec_end (n := s.size - p) (b0 := (s.get! p).toNat) (b1 := (s.get! (p + 1)).toNat) (b2 := (s.get! (p + 2)).toNat) (b3 := (s.get! (p + 3)).toNat) (by omega)
  rw [← decode_at] at h1 h2 e1 e2 e3 e4 h4
  generalize Utf8.decode s p = x at *
  refine ⟨by omega, ?_⟩
  rw [h2, get_byteI (by omega)]
  have : x.2 = 1 ∨ x.2 = 2 ∨ x.2 = 3 ∨ x.2 = 4 := by omega
  rcases this with e | e | e | e
  · rw [e1 e, e, show p + 1 - 1 = p by omega]; omega
  · rw [e2 e, e, show p + 2 - 1 = p + 1 by omega]; omega
  · rw [e3 e, e, show p + 3 - 1 = p + 2 by omega]; omega
  · rw [e4 e, e, show p + 4 - 1 = p + 3 by omega]; omega
theorem rs_last (s : ByteArray) : ∀ (k p : Nat), s.size - p ≤ k → p < s.size → ∃ q, (rsF s p).getLast? = some (q, (Utf8.decode s q).1) ∧ q < s.size ∧ q + (Utf8.decode s q).2 = s.size
  | 0, p, h, hp => by omega
  | k + 1, p, h, hp => by
    have hw := decode_wide s hp
    obtain ⟨hl, _⟩ := dec_last hp
    rw [rsF_lt hp]
    by_cases he : p + (Utf8.decode s p).2 < s.size
    · obtain ⟨q, h1, h2, h3⟩ := rs_last s k _ (by omega) he
      exact ⟨q, by rw [List.getLast?_cons, h1]; rfl, h2, h3⟩
    · rw [rsF_ge he]
      exact ⟨p, rfl, hp, by omega⟩
theorem run_fst {s : ByteArray} (h : 0 < s.size) : (runI s)[0]? = some (45 : Int) ↔ byteI s 0 = 45 := by
  rw [← dec_first h, runI, runesL, rsF_lt h]
  simp
  omega
theorem run_lst {s : ByteArray} (h : 0 < s.size) : (runI s)[(runI s).length - 1]? = some (45 : Int) ↔ byteI s (s.size - 1) = 45 := by
  obtain ⟨q, h1, h2, h3⟩ := rs_last s s.size 0 (by omega) h
  have h4 := (dec_last h2).2
  rw [h3] at h4
  rw [← h4, ← List.getLast?_eq_getElem?, runI, runesL, List.getLast?_map, List.getLast?_map, h1]
  simp
  omega
theorem run_nil {s : ByteArray} : runI s = [] ↔ s.size = 0 := by
  rw [runI, runesL, List.map_eq_nil_iff, List.map_eq_nil_iff]
  constructor
  · intro h
    apply Classical.byContradiction
    intro h0
    rw [rsF_lt (by omega)] at h
    cases h
  · intro h; exact rsF_ge (by omega)
theorem name_iff (s : ByteArray) : checkN s = 0 ↔ NameI (runI s) := by
  have hlen : (runI s).length = (runesL s).length := by rw [runI, List.length_map]
  have heach : (∀ x ∈ runI s, badI x = false) ↔ ∀ r ∈ runesL s, oddR r = false := by
    rw [runI]
    constructor
    · intro h r hr; rw [← badI_odd]; exact h _ (List.mem_map_of_mem hr)
    · intro h x hx
      obtain ⟨r, hr, rfl⟩ := List.mem_map.1 hx
      rw [badI_odd]; exact h r hr
  have hone : (∀ x ∈ runI s, ∀ y ∈ runI s, ofR x ≠ 0 → ofR y ≠ 0 → ofR x = ofR y) ↔ ∀ r ∈ runesL s, ∀ q ∈ runesL s, ofR r ≠ 0 → ofR q ≠ 0 → ofR r = ofR q := by
    rw [runI]
    constructor
    · intro h r hr q hq; exact h _ (List.mem_map_of_mem hr) _ (List.mem_map_of_mem hq)
    · intro h x hx y hy
      obtain ⟨r, hr, rfl⟩ := List.mem_map.1 hx
      obtain ⟨q, hq, rfl⟩ := List.mem_map.1 hy
      exact h r hr q hq
  unfold checkN firstN
  by_cases h24 : 24 < (runesL s).length
  · rw [if_pos h24]
    exact ⟨fun h => absurd h (by decide), fun h => by have := h.len; omega⟩
  rw [if_neg h24]
  by_cases h0 : s.size = 0
  · rw [if_pos (.inl h0)]
    exact ⟨fun h => absurd h (by decide), fun h => absurd (run_nil.2 h0) h.pos⟩
  have hp : 0 < s.size := by omega
  have hf := run_fst hp
  have hl := run_lst hp
  by_cases h45 : s.size = 0 ∨ byteI s 0 = 45 ∨ byteI s (s.size - 1) = 45
  · rw [if_pos h45]
    refine ⟨fun h => absurd h (by decide), fun h => ?_⟩
    rcases h45 with e | e | e
    · exact absurd e h0
    · exact absurd (hf.2 e) h.fst
    · exact absurd (hl.2 e) h.lst
  rw [if_neg h45]
  have hz := fst_zero (runesL s) 0
  by_cases he : (fstF (runesL s) 0 0).2 ≠ 0
  · rw [if_pos he]
    refine ⟨fun h => absurd h he, fun h => ?_⟩
    exact absurd (hz.2 ⟨heach.1 h.each, fun e => absurd rfl e, fun _ => hone.1 h.one⟩) he
  · rw [if_neg he]
    have he : (fstF (runesL s) 0 0).2 = 0 := by simpa using he
    obtain ⟨q1, _, q3⟩ := hz.1 he
    exact ⟨fun _ => ⟨by omega, fun e => h0 (run_nil.1 e), fun e => h45 (.inr (.inl (hf.1 e))), fun e => h45 (.inr (.inr (hl.1 e))), heach.2 q1, hone.2 (q3 rfl)⟩, fun _ => rfl⟩
theorem rb_cons (x : Int) (l : List Int) : Go.runesBytes (x :: l) = Utf8.encode x ++ Go.runesBytes l := by
  have key : ∀ (l : List Int) (a : ByteArray), l.foldl (fun r n => r ++ Utf8.encode n) a = a ++ l.foldl (fun r n => r ++ Utf8.encode n) ByteArray.empty := by
    intro l
    induction l with
    | nil => intro a; exact (app_nil a).symm
    | cons y l ih =>
      intro a
      rw [List.foldl_cons, List.foldl_cons, ih, ih (ByteArray.empty ++ _)]
      rw [show ByteArray.empty ++ Utf8.encode y = Utf8.encode y from nil_app _, app_assoc]
  rw [Go.runesBytes, List.foldl_cons, key, show ByteArray.empty ++ Utf8.encode x = Utf8.encode x from nil_app _]
  rfl
theorem enc_list {r : Nat} (h : r < 2048) : (Utf8.encode (r : Int)).data.toList = if r < 128 then [UInt8.ofNat r] else [UInt8.ofNat (192 + r / 64), UInt8.ofNat (128 + r % 64)] := by
  have hv : Utf8.valid (r : Int) = true := by
    unfold Utf8.valid
    simp; omega
  unfold Utf8.encode
  simp only [hv, if_true, Int.toNat_natCast]
  by_cases h1 : r < 128
  · rw [if_pos h1, if_pos h1]
  · rw [if_neg h1, if_neg h1, if_pos h]
theorem u8_inj {a b : Nat} (ha : a < 256) (hb : b < 256) (h : UInt8.ofNat a = UInt8.ofNat b) : a = b := by
  have := congrArg UInt8.toNat h
  rw [UInt8.toNat_ofNat', UInt8.toNat_ofNat'] at this
  omega
theorem rb_inj : ∀ {xs ys : List Int}, (∀ x ∈ xs, 0 ≤ x ∧ x < 2048) → (∀ y ∈ ys, 0 ≤ y ∧ y < 2048) → (Go.runesBytes xs).data.toList = (Go.runesBytes ys).data.toList → xs = ys
  | [], [], _, _, _ => rfl
  | [], y :: ys, _, hy, h => by
    obtain ⟨y1, y2⟩ := hy y List.mem_cons_self
    obtain ⟨n, rfl⟩ := Int.eq_ofNat_of_zero_le y1
    rw [rb_cons, app_list, enc_list (by omega)] at h
    exfalso
    split at h <;> cases h
  | x :: xs, [], hx, _, h => by
    obtain ⟨y1, y2⟩ := hx x List.mem_cons_self
    obtain ⟨n, rfl⟩ := Int.eq_ofNat_of_zero_le y1
    rw [rb_cons, app_list, enc_list (by omega)] at h
    exfalso
    split at h <;> cases h
  | x :: xs, y :: ys, hx, hy, h => by
    obtain ⟨x1, x2⟩ := hx x List.mem_cons_self
    obtain ⟨y1, y2⟩ := hy y List.mem_cons_self
    obtain ⟨m, rfl⟩ := Int.eq_ofNat_of_zero_le x1
    obtain ⟨n, rfl⟩ := Int.eq_ofNat_of_zero_le y1
    rw [rb_cons, rb_cons, app_list, app_list, enc_list (by omega), enc_list (by omega)] at h
    have ih := rb_inj (xs := xs) (ys := ys) (fun z hz => hx z (List.mem_cons_of_mem _ hz)) (fun z hz => hy z (List.mem_cons_of_mem _ hz))
    by_cases hm : m < 128
    · rw [if_pos hm] at h
      by_cases hn : n < 128
      · rw [if_pos hn] at h
        injection h with e1 e2
        rw [u8_inj (by omega) (by omega) e1, ih e2]
      · rw [if_neg hn] at h
        injection h with e1 e2
        have := u8_inj (by omega) (by omega) e1
        omega
    · rw [if_neg hm] at h
      by_cases hn : n < 128
      · rw [if_pos hn] at h
        injection h with e1 e2
        have := u8_inj (by omega) (by omega) e1
        omega
      · rw [if_neg hn] at h
        injection h with e1 e2
        injection e2 with e2 e3
        have k1 := u8_inj (by omega) (by omega) e1
        have k2 := u8_inj (by omega) (by omega) e2
        rw [show m = n by omega, ih e3]
theorem lookI_rng {r : Int} (h : 0 ≤ r ∧ r < 2048) : 0 ≤ lookI r ∧ lookI r < 2048 := by
  by_cases hm : r ∈ lookCs
  · have : ∀ x ∈ lookCs, 0 ≤ lookI x ∧ lookI x < 2048 := by decide +kernel
    exact this r hm
  · rw [look_not hm]; exact h
theorem name_rng {xs : List Int} (h : NameI xs) : ∀ x ∈ xs, 0 ≤ x ∧ x < 2048 := fun x hx => by
  have := h.each x hx
  unfold badI signR ofR at this
  simp at this
  repeat' split at this
  all_goals omega
theorem skel_iff {a b : ByteArray} (ha : NameI (runI a)) (hb : NameI (runI b)) : skelB a = skelB b ↔ lookL a = lookL b := by
  constructor
  · intro h
    unfold skelB at h
    refine rb_inj (fun x hx => ?_) (fun x hx => ?_) (by rw [h])
    · rw [← look_run] at hx
      obtain ⟨r, hr, rfl⟩ := List.mem_map.1 hx
      exact lookI_rng (name_rng ha r hr)
    · rw [← look_run] at hx
      obtain ⟨r, hr, rfl⟩ := List.mem_map.1 hx
      exact lookI_rng (name_rng hb r hr)
  · intro h; rw [skelB, skelB, h]
def ClashI (a b : ByteArray) : Prop := NameI (runI a) ∧ NameI (runI b) ∧ a ≠ b ∧ lookL a = lookL b
structure RollI (xs : List ByteArray) : Prop where
  len : 1 ≤ xs.length ∧ xs.length ≤ 8
  each : ∀ (i : Nat) (x : ByteArray), xs[i]? = some x → NameI (runI x) ∧ ∀ (k : Nat) (y : ByteArray), k < i → xs[k]? = some y → y ≠ x ∧ ¬ ClashI y x
theorem prs_at' {xs : List ByteArray} {p : ByteArray × ByteArray} (hp : p ∈ prs xs) : ∃ i k : Nat, k < i ∧ xs[k]? = some p.1 ∧ xs[i]? = some p.2 := by
  have key : ∀ n, n ≤ xs.length → p ∈ prsK xs n → ∃ i k : Nat, k < i ∧ xs[k]? = some p.1 ∧ xs[i]? = some p.2 := by
    intro n
    induction n with
    | zero => intro _ h; cases h
    | succ n ih =>
      intro hn h
      rcases List.mem_append.1 h with h | h
      · exact ih (by omega) h
      · obtain ⟨a, ha, rfl⟩ := List.mem_map.1 h
        obtain ⟨k, hk⟩ := List.getElem?_of_mem ha
        rw [List.getElem?_take] at hk
        split at hk
        · rename_i hkn
          refine ⟨n, k, hkn, hk, ?_⟩
          rw [List.getD_eq_getElem?_getD, List.getElem?_eq_getElem (by omega)]
          rfl
        · cases hk
  exact key _ (Nat.le_refl _) hp
theorem roll_iff (xs : List ByteArray) : rollB xs = true ↔ RollI xs := by
  rw [rollB, Bool.and_eq_true, fineB, Bool.and_eq_true, Bool.and_eq_true, decide_eq_true_eq, decide_eq_true_eq, Bool.not_eq_true', Bool.not_eq_true', List.any_eq_false, List.any_eq_false]
  constructor
  · rintro ⟨⟨hl, hb⟩, hno⟩
    have hnm : ∀ z ∈ xs, NameI (runI z) := fun z hz => (name_iff z).1 (by simpa [badN] using hb z hz)
    refine ⟨hl, fun i x hi => ⟨hnm x (List.mem_of_getElem? hi), fun k y hk hy => ?_⟩⟩
    have h1 := hno _ (List.mem_of_getElem? (prs_at hi hy hk))
    have hx := hnm x (List.mem_of_getElem? hi)
    have hy' := hnm y (List.mem_of_getElem? hy)
    have c1 := (name_iff x).2 hx
    have c2 := (name_iff y).2 hy'
    unfold likeB clashB at h1
    refine ⟨fun e => h1 (by simp [e]), fun hc => h1 ?_⟩
    have := (skel_iff hy' hx).2 hc.2.2.2
    simp [c1, c2, this, hc.2.2.1]
  · rintro ⟨hl, he⟩
    have hnm : ∀ z ∈ xs, NameI (runI z) := fun z hz => by
      obtain ⟨i, hi⟩ := List.getElem?_of_mem hz
      exact (he i z hi).1
    refine ⟨⟨hl, fun z hz => by simpa [badN] using (name_iff z).2 (hnm z hz)⟩, fun p hp hl => ?_⟩
    obtain ⟨i, k, hk, h1, h2⟩ := prs_at' hp
    obtain ⟨q1, q2⟩ := (he i p.2 h2).2 k p.1 hk h1
    have n1 := hnm p.1 (List.mem_of_getElem? h1)
    have n2 := hnm p.2 (List.mem_of_getElem? h2)
    rw [likeB, decide_eq_false q1, Bool.false_or, clashB] at hl
    simp only [Bool.and_eq_true, decide_eq_true_eq] at hl
    exact q2 ⟨n1, n2, q1, (skel_iff n1 n2).1 hl.2.2.2⟩
end Go.Proofs.YtladcmfbkiogbaaGreatDoor
namespace Go.Proofs.YtladcmfbkiogbaaGreatDoor
open Go.Chi Go.Lib
set_option maxRecDepth 10000
def clashI (a b : ByteArray) : Bool := decide (refN (runI a) = 0 ∧ refN (runI b) = 0 ∧ a ≠ b) && decide (lookL a = lookL b)
theorem clashI_iff (a b : ByteArray) : clashI a b = true ↔ ClashI a b := by
  unfold clashI ClashI
  simp only [Bool.and_eq_true, decide_eq_true_eq, refN_zero]
  constructor
  · rintro ⟨⟨h1, h2, h3⟩, h4⟩; exact ⟨h1, h2, h3, h4⟩
  · rintro ⟨h1, h2, h3, h4⟩; exact ⟨⟨h1, h2, h3⟩, h4⟩
set_option maxHeartbeats 8000000 in
theorem refClash_ok (M : Mem) (L : HL) (a b : ByteArray) (ha : a.size < 1000000) (hb : b.size < 1000000) : TrQ Tryz.prog 51 [.string a, .string b] M L (.bool (clashI a b)) := by
  have hca := fun M L => refCheckN_ok M L a ha
  have hcb := fun M L => refCheckN_ok M L b hb
  have hv : (((refN (runI a) == 0) && (refN (runI b) == 0)) && !(a.toList == b.toList)) = decide (refN (runI a) = 0 ∧ refN (runI b) = 0 ∧ a ≠ b) := by
    rw [bytes_beq, Bool.eq_iff_iff]; simp [and_assoc]
  have hdef : clashI a b = (decide (refN (runI a) = 0 ∧ refN (runI b) = 0 ∧ a ≠ b) && decide (lookL a = lookL b)) := rfl
  generalize refN (runI a) = na at *
  generalize refN (runI b) = nb at *
  refine Tr.intro 26 Tryz.func51 rfl rfl Tryz.call51 rfl ?_; intro C hC hro
  repeat (first | refine zc ?_ | refine vq ?_)
  refine qc (hca _ _) ?_
  iterate 3 refine yy ?_
  refine gc (hcb _ _) ?_
  iterate 8 refine yy ?_
  by_cases hq : na = 0 ∧ nb = 0 ∧ a ≠ b
  · rw [decide_eq_true hq] at hv hdef
    refine runL_as 18 (.bool true) rfl (congrArg Value.bool hv) ?_
    repeat (first | refine yk ?_ | refine yx fun _ => ?_)
    refine ok (refLooks_ok _ _ a ha) ?_
    rintro _ M1 _ ⟨hM1, rfl, q1, d1, rfl, hs1⟩
    repeat (first | refine yk ?_ | refine yx fun _ => ?_)
    refine ok (refLooks_ok _ _ b hb) ?_
    rintro _ M2 _ ⟨hM2, rfl, q2, d2, rfl, hs2⟩
    have hl6 : (lookL a).length < 1000000 := by
      have := runI_len a
      rw [← look_run, List.length_map]; omega
    refine ok (refCompare_ok _ _ (lookL a) (lookL b) q1 q2 d1 d2 (hs1.le hM2) hs2 hl6) ?_
    rintro _ _ _ ⟨rfl, rfl, c, rfl, hcm⟩
    have hc0 : (c == 0) = decide (lookL a = lookL b) := by rw [Bool.eq_iff_iff]; simpa using hcm
    rw [Bool.true_and, ← hc0] at hdef
    repeat (first | refine yk ?_ | refine yx fun _ => ?_)
    exact run_ret hC (rs := [.tmp 4]) rfl (resT rfl resN) (fun _ h => h.of_le (Mem.le_trans hM1 hM2)) ⟨by rw [hdef]; rfl, rfl, rfl⟩
  · rw [decide_eq_false hq] at hv hdef
    refine runL_as 18 (.bool false) rfl (congrArg Value.bool hv) ?_
    repeat (first | refine yk ?_ | refine yx fun _ => ?_)
    exact run_ret hC (rs := [.tmp 4]) rfl (resT rfl resN) (fun _ h => h) ⟨by rw [hdef]; rfl, rfl, rfl⟩
set_option maxHeartbeats 8000000 in
theorem refRoll_ok (M : Mem) (L : HL) (S : SStr) (hS : StOk M S) (hz : ∀ x ∈ S.xs, x.size < 1000000) : TrQ Tryz.prog 17 [S.v] M L (.bool (rollB S.xs)) := by
  have hl := hS.len
  have h6 := hS.2
  have h0 := hS.1
  obtain ⟨a, n, c, xs⟩ := S
  simp only [SStr.v] at *
  have hiff := roll_iff xs
  have hno : ∀ {P : Prop}, P → (RollI xs → ¬ P) → rollB xs = false := fun hp h => by
    cases hr : rollB xs with
    | false => rfl
    | true => exact absurd hp (h (hiff.1 hr))
  refine Tr.intro 50 Tryz.func17 rfl rfl Tryz.call17 rfl ?_; intro C hC hro
  repeat (first | refine yy ?_ | refine yx fun _ => ?_)
  refine run_cond (t := decide ((n : Int) < 1) || decide ((n : Int) > 8)) rfl (fun h => ?_) (fun h => ?_)
  · have hf := hno h fun hr h => by have := hr.len; simp at h; omega
    repeat (first | refine yy ?_ | refine yx fun _ => ?_)
    exact run_ret hC (rs := [.tmp 2]) rfl (resT rfl resN) (fun _ h => h) ⟨by rw [hf]; rfl, rfl, rfl⟩
  have hlen : 1 ≤ xs.length ∧ xs.length ≤ 8 := by simp at h; omega
  clear h
  repeat (first | refine yy ?_ | refine yx fun _ => ?_)
  refine run_loopN (fun j σ1 M1 L1 => j ≤ n ∧ M = M1 ∧ L = L1 ∧ (∀ (i : Nat) (x : ByteArray), i < j → xs[i]? = some x → NameI (runI x) ∧ ∀ (k : Nat) (y : ByteArray), k < i → xs[k]? = some y → y ≠ x ∧ ¬ ClashI y x) ∧ σ1 = [(3, iv j), (0, .slice a n c)]) n [(3, iv 0), (0, .slice a n c)] ?_ ⟨Nat.zero_le _, rfl, rfl, (fun _ _ h => by omega), rfl⟩ (fun j _ _ _ h => h.1) ?_
  · exact ⟨rfl, rfl, trivial⟩
  rintro j _ _ _ ⟨hj, rfl, rfl, hpre, rfl⟩ hnext
  repeat (first | refine yy ?_ | refine yx fun _ => ?_)
  refine run_cond (t := decide ((j : Int) < (n : Int))) rfl (fun h => ?_) (fun h => ?_)
  rotate_left
  · have hge : j = n := by have := of_decide_eq_false h; omega
    have ht : rollB xs = true := hiff.2 ⟨hlen, fun i x hi => hpre i x (by have := (List.getElem?_eq_some_iff.1 hi).1; omega) hi⟩
    repeat (first | refine yy ?_ | refine yx fun _ => ?_)
    exact run_ret hC (rs := [.tmp 2]) rfl (resT rfl resN) (fun _ h => h) ⟨by rw [ht]; rfl, rfl, rfl⟩
  have hlt : j < n := by have := of_decide_eq_true h; omega
  obtain ⟨b1, o1, x, rfl, hx, hc1⟩ := SStr.at_ h0 hlt
  have hxz := hz x (List.mem_of_getElem? hx)
  repeat (first | refine yy ?_ | refine yx fun _ => ?_ | refine qc (refCheckN_ok _ _ x hxz) ?_)
  refine run_cond (t := refN (runI x) != 0) rfl (fun h => ?_) (fun h => ?_)
  · have hf := hno h fun hr h => by
      have := (refN_zero (runI x)).2 (hr.each j x hx).1
      rw [this] at h; cases h
    repeat (first | refine yy ?_ | refine yx fun _ => ?_)
    exact run_ret hC (rs := [.tmp 2]) rfl (resT rfl resN) (fun _ h => h) ⟨by rw [hf]; rfl, rfl, rfl⟩
  have hnm : NameI (runI x) := (refN_zero _).1 (by simpa using h)
  clear h
  repeat (first | refine yy ?_ | refine yx fun _ => ?_)
  refine run_loopN (fun k σ1 M1 L1 => k ≤ j ∧ M = M1 ∧ L = L1 ∧ (∀ (i : Nat) (y : ByteArray), i < k → xs[i]? = some y → y ≠ x ∧ ¬ ClashI y x) ∧ σ1 = [(4, iv k), (3, iv j), (0, .slice (some ⟨b1, o1, none⟩) n c)]) j [(4, iv 0), (3, iv j), (0, .slice (some ⟨b1, o1, none⟩) n c)] ?_ ⟨Nat.zero_le _, rfl, rfl, (fun _ _ h => by omega), rfl⟩ (fun j _ _ _ h => h.1) ?_
  · exact ⟨rfl, rfl, rfl, trivial⟩
  rintro k _ _ _ ⟨hk, rfl, rfl, hin, rfl⟩ hnext2
  repeat (first | refine yy ?_ | refine yx fun _ => ?_)
  refine run_cond (t := decide ((k : Int) < (j : Int))) rfl (fun h => ?_) (fun h => ?_)
  · have hlt2 : k < j := by have := of_decide_eq_true h; omega
    obtain ⟨b2, o2, y, e2, hy, hc2⟩ := SStr.at_ h0 (show k < n by omega)
    cases e2
    have hyz := hz y (List.mem_of_getElem? hy)
    have hkn : k < n := by omega
    repeat (first | refine yy ?_ | refine dd ?_ | refine yd ?_ | refine yx fun _ => ?_ | refine pgc (refClash_ok _ _ y x hyz hxz) ?_)
    refine run_cond (t := (y.toList == x.toList) || clashI y x) rfl (fun h => ?_) (fun h => ?_)
    · have hf := hno h fun hr h => by
        obtain ⟨q1, q2⟩ := (hr.each j x hx).2 k y hlt2 hy
        rw [bytes_beq, Bool.or_eq_true] at h
        rcases h with h | h
        · exact q1 (by simpa using h)
        · exact q2 ((clashI_iff _ _).1 h)
      repeat (first | refine yy ?_ | refine yx fun _ => ?_)
      exact run_ret hC (rs := [.tmp 2]) rfl (resT rfl resN) (fun _ h => h) ⟨by rw [hf]; rfl, rfl, rfl⟩
    · rw [bytes_beq, Bool.or_eq_false_iff] at h
      obtain ⟨g1, g2⟩ := h
      repeat (first | refine yy ?_ | refine yx fun _ => ?_)
      refine run_sub' (hnext2 _ _ _ ⟨hlt2, rfl, rfl, fun i z hi hzz => ?_, rfl⟩) ⟨lk_succ rfl (by omega), rfl, rfl, trivial⟩
      by_cases hik : i = k
      · subst hik
        rw [hy] at hzz
        obtain rfl := Option.some.inj hzz
        exact ⟨by simpa using g1, fun hc => by rw [(clashI_iff _ _).2 hc] at g2; cases g2⟩
      · exact hin i z (by omega) hzz
  · have hge : k = j := by have := of_decide_eq_false h; omega
    subst hge
    repeat (first | refine yy ?_ | refine yx fun _ => ?_)
    refine run_sub' (hnext _ _ _ ⟨hlt, rfl, rfl, fun i z hi hzz => ?_, rfl⟩) ⟨lk_succ rfl (by omega), rfl, trivial⟩
    by_cases hik : i = k
    · subst hik
      rw [hx] at hzz
      obtain rfl := Option.some.inj hzz
      exact ⟨hnm, hin⟩
    · exact hpre i z (by omega) hzz
end Go.Proofs.YtladcmfbkiogbaaGreatDoor
namespace Go.Proofs.YtladcmfbkiogbaaGreatDoor
open Go.Chi
set_option maxRecDepth 10000
def isT (t : ByteArray) : Bool := checkR t == 0
theorem ref06May_ok (M : Mem) (L : HL) (t : ByteArray) (ht : t.size < 4611686018427387904) : TrQ Tryz.prog 116 [.string t] M L (.bool (isT t)) := by
  refine Tr.intro 6 Tryz.func116 rfl rfl Tryz.call116 rfl ?_; intro C hC hro
  repeat (first | refine zz ?_ | refine zx fun _ => ?_ | refine runL_q (qt_callF rfl (fun _ => refCheck_ok _ _ t ht)) rfl rfl rfl ?_)
  exact run_ret hC (rs := [.tmp 2]) rfl (resT rfl resN) (fun _ h => h) ⟨by rw [isT, ← refCheck_eq _ ht]; rfl, rfl, rfl⟩
theorem refOrg_ok (M : Mem) (L : HL) (n : Int) : TrQ Tryz.prog 82 [.int .i64 n] M L (.bool (orgW n)) := by
  refine Tr.intro 9 Tryz.func82 rfl rfl Tryz.call82 rfl ?_; intro C hC hro
  repeat (first | refine zz ?_ | refine zx fun _ => ?_)
  exact run_ret hC (rs := [.tmp 2]) rfl (resT rfl resN) (fun _ h => h) ⟨rfl, rfl, rfl⟩
theorem refTx_ok (M : Mem) (L : HL) (t : Tx) : TrQ Tryz.prog 44 [.agg ⟨txC t⟩] M L (.bool (mayTx t)) := by
  refine Tr.intro 26 Tryz.func44 rfl rfl Tryz.call44 rfl ?_; intro C hC hro
  repeat (first | refine zz ?_ | refine zx fun _ => ?_ | refine runL_q (qt_callF rfl (fun _ => refOrg_ok _ _ _)) rfl rfl rfl ?_)
  exact run_ret hC (rs := [.tmp 2]) rfl (resT rfl resN) (fun _ h => h.drop) ⟨rfl, rfl, rfl⟩
theorem refNm_ok (M : Mem) (L : HL) (n : Int) : TrQ Tryz.prog 115 [.int .i64 n] M L (.bool (nmW n)) := by
  refine Tr.intro 9 Tryz.func115 rfl rfl Tryz.call115 rfl ?_; intro C hC hro
  repeat (first | refine zz ?_ | refine zx fun _ => ?_)
  exact run_ret hC (rs := [.tmp 2]) rfl (resT rfl resN) (fun _ h => h) ⟨rfl, rfl, rfl⟩
end Go.Proofs.YtladcmfbkiogbaaGreatDoor
namespace Go.Proofs.YtladcmfbkiogbaaGreatDoor
open Go.Chi
set_option maxRecDepth 10000
set_option maxRecDepth 10000 in
set_option maxHeartbeats 16000000 in
theorem refMayStep_ok (M : Mem) (L : HL) (x : Sr) (hx : SrOk M x) (r : Bool) (hr : r = true ↔ SpP x.sp) : TrQ Tryz.prog 117 [.agg ⟨srC x⟩] M L (.bool r) := by
  have l1 := hx.list.len
  have n1 := hx.list.2
  refine Tr.intro 62 Tryz.func117 rfl rfl Tryz.call117 rfl ?_; intro C hC hro
  repeat (first | refine zz ?_ | refine zx fun _ => ?_ | refine runL_g rfl rfl (qt_callF rfl (fun _ => refNm_ok _ _ x.a)) rfl rfl rfl rfl rfl ?_ | refine runL_g rfl rfl (qt_callF rfl (fun _ => refNm_ok _ _ x.b)) rfl rfl rfl rfl rfl ?_ | refine runL_g rfl rfl (qt_callF rfl (fun _ => refNm_ok _ _ x.c)) rfl rfl rfl rfl rfl ?_ | refine runL_g rfl rfl (qt_callF rfl (fun _ => refNm_ok _ _ x.n)) rfl rfl rfl rfl rfl ?_)
  rename_i bx
  refine run_cond rfl (fun h => ?_) (fun h => ?_)
  · have hrf : r = false := by
      cases r with
      | false => rfl
      | true =>
        exfalso
        obtain ⟨⟨d1, d2⟩, h2, h3, h4, h5, h6, h7, h8⟩ := hr.1 rfl
        simp only [Sr.sp] at d1 d2 h2 h3 h4 h5 h6 h7
        rw [l1] at h7
        simp only [h2, h3, h4, h5, Bool.not_true, Bool.or_false, Bool.or_eq_true, decide_eq_true_eq] at h
        omega
    subst hrf
    repeat (first | refine zz ?_ | refine zx fun _ => ?_)
    exact run_ret hC (rs := [.tmp 2]) rfl (resT rfl resN) (fun _ h => h.drop) ⟨rfl, rfl, rfl⟩
  have hr2 : r = true ↔ ∀ v ∈ x.list.xs, nmW v = true := by
    rw [hr]
    simp only [Bool.or_eq_false_iff, decide_eq_false_iff_not, Bool.not_eq_false'] at h
    obtain ⟨⟨⟨⟨⟨⟨⟨d1, d2⟩, h2⟩, h3⟩, h4⟩, h5⟩, h6⟩, h7⟩ := h
    exact ⟨fun q => q.list, fun q => ⟨by show 1 ≤ x.do_ ∧ x.do_ ≤ 9; omega, h2, h3, h4, h5, by show x.text.size ≤ 1024; omega, by show x.list.xs.length ≤ 32; omega, q⟩⟩
  repeat (first | refine zz ?_ | refine zx fun _ => ?_)
  refine run_loopN (fun j σ1 M1 L1 => j ≤ x.list.len ∧ M = M1 ∧ (∀ v ∈ x.list.xs.take j, nmW v = true) ∧ L1 = (bx, .cells ⟨srC x⟩ 60 (0, 0)) :: L ∧ σ1 = [(3, .int .i64 (j : Int)), (1, .pointer (some ⟨bx, 0, none⟩))]) x.list.len [(3, .int .i64 ((0 : Nat) : Int)), (1, .pointer (some ⟨bx, 0, none⟩))] ?_ ⟨Nat.zero_le _, rfl, by simp, rfl, rfl⟩ (fun j _ _ _ h => h.1) ?_
  · exact ⟨rfl, rfl, trivial⟩
  rintro j _ _ _ ⟨hj, rfl, hall, rfl, rfl⟩ hnext
  repeat (first | refine zz ?_ | refine zx fun _ => ?_)
  refine run_cond rfl (fun h => ?_) (fun h => ?_)
  · have hlt : j < x.list.len := by simpa using h
    obtain ⟨b, off, m, hma, hm, hc⟩ := SIn.at_ hx.list.1 hlt
    have hv : x.list.v = .slice (some ⟨b, off, none⟩) x.list.len x.list.cap := by rw [← hma]; rfl
    repeat (first | refine zz ?_ | refine zx fun _ => ?_)
    refine runL_as 56 (.slice (some ⟨b, off, none⟩) x.list.len x.list.cap) rfl hv ?_
    repeat (first | refine zz ?_ | refine zx fun _ => ?_ | refine runL_q (qt_indexN tok rfl rfl rfl rfl (fun _ => by omega)) rfl rfl rfl ?_ | refine runL_g rfl rfl (qt_indexN tok rfl rfl rfl rfl (fun _ => by omega)) rfl rfl rfl rfl rfl ?_ | refine runL_q (qt_ldM tok rfl hc rfl) rfl rfl rfl ?_ | refine runL_g rfl rfl (qt_ldM tok rfl hc rfl) rfl rfl rfl rfl rfl ?_ | refine runL_q (qt_ldM0 tok rfl hc rfl) rfl rfl rfl ?_ | refine runL_g rfl rfl (qt_ldM0 tok rfl hc rfl) rfl rfl rfl rfl rfl ?_ | refine runL_q (qt_callF rfl (fun _ => refNm_ok _ _ m)) rfl rfl rfl ?_)
    refine run_cond rfl (fun h => ?_) (fun h => ?_)
    · have hrf : r = false := by
        cases r with
        | false => rfl
        | true =>
          have h2 := hr2.1 rfl m (List.mem_of_getElem? hm)
          rw [h2] at h; cases h
      subst hrf
      repeat (first | refine zz ?_ | refine zx fun _ => ?_)
      exact run_ret hC (rs := [.tmp 2]) rfl (resT rfl resN) (fun _ h => h.drop) ⟨rfl, rfl, rfl⟩
    · have hmm : nmW m = true := by simpa using h
      repeat (first | refine zz ?_ | refine zx fun _ => ?_)
      refine run_sub' (hnext _ _ _ ⟨hlt, rfl, ?_, rfl, rfl⟩) ⟨lk_succ rfl (by omega), rfl, trivial⟩
      intro v hv
      rw [take_snoc hm] at hv
      rcases List.mem_append.1 hv with hv | hv
      · exact hall v hv
      · rw [List.mem_singleton.1 hv]; exact hmm
  · have hge : j = x.list.len := by simp at h; omega
    subst hge
    rw [List.take_of_length_le (by omega)] at hall
    have hrt : r = true := hr2.2 hall
    subst hrt
    repeat (first | refine zz ?_ | refine zx fun _ => ?_)
    exact run_ret hC (rs := [.tmp 2]) rfl (resT rfl resN) (fun _ h => h.drop) ⟨rfl, rfl, rfl⟩
end Go.Proofs.YtladcmfbkiogbaaGreatDoor
namespace Go.Proofs.YtladcmfbkiogbaaGreatDoor
open Go.Chi
set_option maxRecDepth 10000
def ofL (k : Int) : List Bool :=
  if k = 1 then [true, true, false, true, false, false, false] else
  if k = 2 then [true, false, false, false, true, true, false] else
  if k = 3 ∨ k = 8 then [true, false, false, false, false, false, false] else
  if k = 4 then [false, false, true, false, false, false, false] else
  if k = 5 ∨ k = 10 then [true, false, false, false, false, false, true] else
  if k = 6 ∨ k = 7 then [true, false, true, false, false, false, false] else
  if k = 9 then [true, false, false, false, true, false, false] else [false, false, false, false, false, false, false]
def ofC (k : Int) : List Value := (ofL k).map Value.bool
set_option maxRecDepth 10000 in
set_option maxHeartbeats 16000000 in
theorem refOf_ok (M : Mem) (L : HL) (k : Int) : TrQ Tryz.prog 78 [.int .u8 k] M L (.tuple ⟨[.agg ⟨ofC k⟩, .bool (decide (1 ≤ k ∧ k ≤ 10))]⟩) := by
  refine Tr.intro 30 Tryz.func78 rfl rfl Tryz.call78 rfl ?_; intro C hC hro
  by_cases hk : 1 ≤ k ∧ k ≤ 10
  · have hk10 : k = 1 ∨ k = 2 ∨ k = 3 ∨ k = 4 ∨ k = 5 ∨ k = 6 ∨ k = 7 ∨ k = 8 ∨ k = 9 ∨ k = 10 := by omega
    rcases hk10 with rfl | rfl | rfl | rfl | rfl | rfl | rfl | rfl | rfl | rfl
    · repeat (first | refine zz ?_ | refine zx fun _ => ?_ | refine run_cond rfl (fun _ => ?_) (fun h => absurd h (by decide)) | refine run_cond rfl (fun h => absurd h (by decide)) (fun _ => ?_))
      exact run_ret hC (rs := [.cell 2 119, .tmp 3]) rfl (rl tok rfl (resT rfl resN)) (fun _ h => h.drop) ⟨rfl, rfl, rfl⟩
    · repeat (first | refine zz ?_ | refine zx fun _ => ?_ | refine run_cond rfl (fun _ => ?_) (fun h => absurd h (by decide)) | refine run_cond rfl (fun h => absurd h (by decide)) (fun _ => ?_))
      exact run_ret hC (rs := [.cell 2 119, .tmp 3]) rfl (rl tok rfl (resT rfl resN)) (fun _ h => h.drop) ⟨rfl, rfl, rfl⟩
    · repeat (first | refine zz ?_ | refine zx fun _ => ?_ | refine run_cond rfl (fun _ => ?_) (fun h => absurd h (by decide)) | refine run_cond rfl (fun h => absurd h (by decide)) (fun _ => ?_))
      exact run_ret hC (rs := [.cell 2 119, .tmp 3]) rfl (rl tok rfl (resT rfl resN)) (fun _ h => h.drop) ⟨rfl, rfl, rfl⟩
    · repeat (first | refine zz ?_ | refine zx fun _ => ?_ | refine run_cond rfl (fun _ => ?_) (fun h => absurd h (by decide)) | refine run_cond rfl (fun h => absurd h (by decide)) (fun _ => ?_))
      exact run_ret hC (rs := [.cell 2 119, .tmp 3]) rfl (rl tok rfl (resT rfl resN)) (fun _ h => h.drop) ⟨rfl, rfl, rfl⟩
    · repeat (first | refine zz ?_ | refine zx fun _ => ?_ | refine run_cond rfl (fun _ => ?_) (fun h => absurd h (by decide)) | refine run_cond rfl (fun h => absurd h (by decide)) (fun _ => ?_))
      exact run_ret hC (rs := [.cell 2 119, .tmp 3]) rfl (rl tok rfl (resT rfl resN)) (fun _ h => h.drop) ⟨rfl, rfl, rfl⟩
    · repeat (first | refine zz ?_ | refine zx fun _ => ?_ | refine run_cond rfl (fun _ => ?_) (fun h => absurd h (by decide)) | refine run_cond rfl (fun h => absurd h (by decide)) (fun _ => ?_))
      exact run_ret hC (rs := [.cell 2 119, .tmp 3]) rfl (rl tok rfl (resT rfl resN)) (fun _ h => h.drop) ⟨rfl, rfl, rfl⟩
    · repeat (first | refine zz ?_ | refine zx fun _ => ?_ | refine run_cond rfl (fun _ => ?_) (fun h => absurd h (by decide)) | refine run_cond rfl (fun h => absurd h (by decide)) (fun _ => ?_))
      exact run_ret hC (rs := [.cell 2 119, .tmp 3]) rfl (rl tok rfl (resT rfl resN)) (fun _ h => h.drop) ⟨rfl, rfl, rfl⟩
    · repeat (first | refine zz ?_ | refine zx fun _ => ?_ | refine run_cond rfl (fun _ => ?_) (fun h => absurd h (by decide)) | refine run_cond rfl (fun h => absurd h (by decide)) (fun _ => ?_))
      exact run_ret hC (rs := [.cell 2 119, .tmp 3]) rfl (rl tok rfl (resT rfl resN)) (fun _ h => h.drop) ⟨rfl, rfl, rfl⟩
    · repeat (first | refine zz ?_ | refine zx fun _ => ?_ | refine run_cond rfl (fun _ => ?_) (fun h => absurd h (by decide)) | refine run_cond rfl (fun h => absurd h (by decide)) (fun _ => ?_))
      exact run_ret hC (rs := [.cell 2 119, .tmp 3]) rfl (rl tok rfl (resT rfl resN)) (fun _ h => h.drop) ⟨rfl, rfl, rfl⟩
    · repeat (first | refine zz ?_ | refine zx fun _ => ?_ | refine run_cond rfl (fun _ => ?_) (fun h => absurd h (by decide)) | refine run_cond rfl (fun h => absurd h (by decide)) (fun _ => ?_))
      exact run_ret hC (rs := [.cell 2 119, .tmp 3]) rfl (rl tok rfl (resT rfl resN)) (fun _ h => h.drop) ⟨rfl, rfl, rfl⟩
  · have hd : decide (1 ≤ k ∧ k ≤ 10) = false := decide_eq_false hk
    have hp : ofC k = [.bool false, .bool false, .bool false, .bool false, .bool false, .bool false, .bool false] := by
      unfold ofC ofL
      rw [if_neg (by omega), if_neg (by omega), if_neg (by omega), if_neg (by omega), if_neg (by omega), if_neg (by omega), if_neg (by omega)]
      rfl
    rw [hd, hp] at hC
    repeat (first | refine zz ?_ | refine zx fun _ => ?_ | refine run_cond rfl (fun h => absurd h (by simp; omega)) (fun _ => ?_))
    exact run_ret hC (rs := [.cell 2 119, .tmp 3]) rfl (rl tok rfl (resT rfl resN)) (fun _ h => h.drop) ⟨rfl, rfl, rfl⟩
end Go.Proofs.YtladcmfbkiogbaaGreatDoor
namespace Go.Proofs.YtladcmfbkiogbaaGreatDoor
open Go.Chi
set_option maxRecDepth 10000
def dB (is o au n g t y s : Bool) (x : Ax) : Bool := (((((((!is) || ((!o) && (x.org != 0))) || ((!au) && (x.auditor != 0))) || ((!n) && (x.n != 0))) || ((!g) && decide ((x.gives.len : Int) > 0))) || ((!t) && !((x.txn.coord == 0) && ((x.txn.epoch == 0) && ((x.txn.seq == 0) && true))))) || ((!y) && x.yes)) || ((!s) && decide ((x.steps.len : Int) > 0))
def dD (t : Bool) (x : Ax) : Bool := (((((!orgW x.org) || !orgW x.auditor) || !nmW x.n) || (t && !mayTx x.txn)) || decide ((x.gives.len : Int) > 6)) || decide ((x.steps.len : Int) > 64)
theorem dB_iff {is o au n g t y s : Bool} {x : Ax} (hi : is = true ↔ 1 ≤ x.do_ ∧ x.do_ ≤ 10) (h1 : 1 ≤ x.do_ ∧ x.do_ ≤ 10 → (o = true ↔ x.do_ ≠ 4)) (h2 : 1 ≤ x.do_ ∧ x.do_ ≤ 10 → (au = true ↔ x.do_ = 1)) (h3 : 1 ≤ x.do_ ∧ x.do_ ≤ 10 → (n = true ↔ x.do_ = 4 ∨ x.do_ = 6 ∨ x.do_ = 7)) (h4 : 1 ≤ x.do_ ∧ x.do_ ≤ 10 → (g = true ↔ x.do_ = 1)) (h5 : 1 ≤ x.do_ ∧ x.do_ ≤ 10 → (t = true ↔ x.do_ = 2 ∨ x.do_ = 9)) (h6 : 1 ≤ x.do_ ∧ x.do_ ≤ 10 → (y = true ↔ x.do_ = 2)) (h7 : 1 ≤ x.do_ ∧ x.do_ ≤ 10 → (s = true ↔ x.do_ = 5 ∨ x.do_ = 10)) :
    dB is o au n g t y s x = false ↔ (1 ≤ x.do_ ∧ x.do_ ≤ 10) ∧ bareA x = true := by
  have e1 : ∀ (b : Bool) (v : Int), ((!b) && (v != 0)) = false ↔ (b = false → v = 0) := fun b v => by cases b <;> simp
  have e2 : ∀ (b : Bool) (v : Nat), ((!b) && decide ((v : Int) > 0)) = false ↔ (b = false → v = 0) := fun b v => by cases b <;> simp
  have e3 : ∀ (b c : Bool), ((!b) && c) = false ↔ (b = false → c = false) := fun b v => by cases b <;> simp
  have e4 : (!((x.txn.coord == 0) && ((x.txn.epoch == 0) && ((x.txn.seq == 0) && true)))) = false ↔ x.txn = tz := by
    rw [Bool.not_eq_false']
    exact ⟨tx_tz, fun h => by rw [h]; rfl⟩
  unfold dB
  rw [bareA_iff]
  simp only [Bool.or_eq_false_iff, e1, e2, e3 t, e4, e3 y]
  have nf : ∀ {b : Bool} {P : Prop}, (b = true ↔ P) → (b = false ↔ ¬ P) := fun {b P} h => by rw [← h]; simp
  constructor
  · rintro ⟨⟨⟨⟨⟨⟨⟨a0, a1⟩, a2⟩, a3⟩, a4⟩, a5⟩, a6⟩, a7⟩
    have hk := hi.1 (by simpa using a0)
    have n1 := nf (h1 hk); have n2 := nf (h2 hk); have n3 := nf (h3 hk); have n4 := nf (h4 hk); have n5 := nf (h5 hk); have n6 := nf (h6 hk); have n7 := nf (h7 hk)
    exact ⟨hk, fun q => a1 (n1.2 (by omega)), fun q => ⟨a2 (n2.2 q), a4 (n4.2 q)⟩, fun q => a5 (n5.2 (by omega)), fun q => a6 (n6.2 q), fun q => a7 (n7.2 (by omega)), fun q => a3 (n3.2 (by omega))⟩
  · rintro ⟨hk, b1, b2, b3, b4, b5, b6⟩
    have n1 := nf (h1 hk); have n2 := nf (h2 hk); have n3 := nf (h3 hk); have n4 := nf (h4 hk); have n5 := nf (h5 hk); have n6 := nf (h6 hk); have n7 := nf (h7 hk)
    exact ⟨⟨⟨⟨⟨⟨⟨by simpa using hi.2 hk, fun q => b1 (by have := n1.1 q; omega)⟩, fun q => (b2 (n2.1 q)).1⟩, fun q => b6 (by have := n3.1 q; omega)⟩, fun q => (b2 (n4.1 q)).2⟩, fun q => b3 (by have := n5.1 q; omega)⟩, fun q => b4 (n6.1 q)⟩, fun q => b5 (by have := n7.1 q; omega)⟩
theorem dD_iff {t : Bool} {x : Ax} : dD t x = false ↔ orgW x.org = true ∧ orgW x.auditor = true ∧ nmW x.n = true ∧ (t = true → mayTx x.txn = true) ∧ x.gives.len ≤ 6 ∧ x.steps.len ≤ 64 := by
  have e3 : (t && !mayTx x.txn) = false ↔ (t = true → mayTx x.txn = true) := by cases t <;> simp
  unfold dD
  simp only [Bool.or_eq_false_iff, e3, Bool.not_eq_false', decide_eq_false_iff_not]
  constructor
  · rintro ⟨⟨⟨⟨⟨a0, a1⟩, a2⟩, a3⟩, a4⟩, a5⟩; exact ⟨a0, a1, a2, a3, by omega, by omega⟩
  · rintro ⟨a0, a1, a2, a3, a4, a5⟩; exact ⟨⟨⟨⟨⟨a0, a1⟩, a2⟩, a3⟩, by omega⟩, by omega⟩
theorem of_ex (k : Int) : ∃ o au n g t y s : Bool, ofC k = [.bool o, .bool au, .bool n, .bool g, .bool t, .bool y, .bool s] ∧
    (1 ≤ k ∧ k ≤ 10 → (o = true ↔ k ≠ 4)) ∧ (1 ≤ k ∧ k ≤ 10 → (au = true ↔ k = 1)) ∧ (1 ≤ k ∧ k ≤ 10 → (n = true ↔ k = 4 ∨ k = 6 ∨ k = 7)) ∧ (1 ≤ k ∧ k ≤ 10 → (g = true ↔ k = 1)) ∧ (1 ≤ k ∧ k ≤ 10 → (t = true ↔ k = 2 ∨ k = 9)) ∧ (1 ≤ k ∧ k ≤ 10 → (y = true ↔ k = 2)) ∧ (1 ≤ k ∧ k ≤ 10 → (s = true ↔ k = 5 ∨ k = 10)) := by
  by_cases hk : 1 ≤ k ∧ k ≤ 10
  · have hk10 : k = 1 ∨ k = 2 ∨ k = 3 ∨ k = 4 ∨ k = 5 ∨ k = 6 ∨ k = 7 ∨ k = 8 ∨ k = 9 ∨ k = 10 := by omega
    rcases hk10 with rfl | rfl | rfl | rfl | rfl | rfl | rfl | rfl | rfl | rfl <;> exact ⟨_, _, _, _, _, _, _, rfl, by simp, by simp, by simp, by simp, by simp, by simp, by simp⟩
  · refine ⟨false, false, false, false, false, false, false, ?_, fun h => absurd h hk, fun h => absurd h hk, fun h => absurd h hk, fun h => absurd h hk, fun h => absurd h hk, fun h => absurd h hk, fun h => absurd h hk⟩
    unfold ofC ofL
    rw [if_neg (by omega), if_neg (by omega), if_neg (by omega), if_neg (by omega), if_neg (by omega), if_neg (by omega), if_neg (by omega)]
    rfl
theorem acP_fine {M : Mem} {x : Ax} (hx : AxOk M x) : AcP x.aa ↔ FineP x := by
  have h0 : chkA x = 0 ↔ fineA x = true := by unfold chkA; split <;> simp_all
  have hl : ∀ s ∈ x.steps.xs, s.list.xs.length = s.list.len := fun s hs => (hx.steps.each s hs).list.len
  rw [← chkA_iff hx.gives.len hx.steps.len hl, h0, fineA_iff hl]
theorem gvB_iff {g : Mb} {t : Bool} (h : ((!orgW g.org) || !isT g.digest) = t) : t = false ↔ GvP g := by
  subst h
  unfold GvP isT
  simp
set_option maxRecDepth 10000 in
set_option maxHeartbeats 32000000 in
theorem refMay_ok (M : Mem) (L : HL) (x : Ax) (hx : AxOk M x) (r : Bool) (hr : r = true ↔ AcP x.aa) : TrQ Tryz.prog 77 [.agg ⟨axC x⟩] M L (.bool r) := by
  have l1 := hx.gives.len
  have l3 := hx.steps.len
  have n1 := hx.gives.2
  have n3 := hx.steps.lt
  have hOf := refOf_ok M ((0, .cells ⟨axC x⟩ 28 (0, 0)) :: L) x.do_
  obtain ⟨o, au, n, g, t, y, s, hof, f1, f2, f3, f4, f5, f6, f7⟩ := of_ex x.do_
  generalize hi : decide (1 ≤ x.do_ ∧ x.do_ ≤ 10) = is at hOf
  have hi : is = true ↔ 1 ≤ x.do_ ∧ x.do_ ≤ 10 := by rw [← hi]; simp
  have hB := dB_iff hi f1 f2 f3 f4 f5 f6 f7
  have hD := dD_iff (t := t) (x := x)
  have hr1 : r = true ↔ (dB is o au n g t y s x = false ∧ dD t x = false) ∧ (∀ m ∈ x.gives.xs, GvP m) ∧ (∀ m ∈ x.steps.xs, SpP m.sp) := by
    rw [hr, acP_fine hx, hB, hD]
    constructor
    · rintro ⟨hk, a2, a3, a4, a5, a6, a7, a8, a9, a10⟩
      exact ⟨⟨⟨hk, a2⟩, a3, a4, a5, fun q => a8 ((f5 hk).1 q), a6, a7⟩, a9, a10⟩
    · rintro ⟨⟨⟨hk, a2⟩, a3, a4, a5, a8, a6, a7⟩, a9, a10⟩
      exact ⟨hk, a2, a3, a4, a5, a6, a7, fun q => a8 ((f5 hk).2 q), a9, a10⟩
  clear hB hD hr f1 f2 f3 f4 f5 f6 f7 hOf
  have hOf : ∀ L', TrQ Tryz.prog 78 [.int .u8 x.do_] M L' (.tuple ⟨[.agg ⟨[.bool o, .bool au, .bool n, .bool g, .bool t, .bool y, .bool s]⟩, .bool is]⟩) := by
    intro L'
    have := refOf_ok M L' x.do_
    rw [hof, show decide (1 ≤ x.do_ ∧ x.do_ ≤ 10) = is by rw [Bool.eq_iff_iff, hi]; simp] at this
    exact this
  refine Tr.intro 164 Tryz.func77 rfl rfl Tryz.call77 rfl ?_; intro C hC hro
  repeat (first | refine zz ?_ | refine zx fun _ => ?_ | refine runL_q (qt_callF rfl (fun _ => hOf _)) rfl rfl rfl ?_)
  rename_i bx bn
  refine run_cond rfl (fun h => ?_) (fun h => ?_)
  · have hb : dB is o au n g t y s x = true := h
    have hrf : r = false := by
      cases r with
      | false => rfl
      | true => have := (hr1.1 rfl).1.1; rw [hb] at this; cases this
    subst hrf
    repeat (first | refine zz ?_ | refine zx fun _ => ?_)
    exact run_ret hC (rs := [.tmp 2]) rfl (resT rfl resN) (fun _ h => h.drop.drop) ⟨rfl, rfl, rfl⟩
  have hb : dB is o au n g t y s x = false := h
  clear h
  repeat (first | refine zz ?_ | refine zx fun _ => ?_ | refine runL_q (qt_callF rfl (fun _ => refOrg_ok _ _ _)) rfl rfl rfl ?_ | refine runL_g rfl rfl (qt_callF rfl (fun _ => refOrg_ok _ _ _)) rfl rfl rfl rfl rfl ?_ | refine runL_g rfl rfl (qt_callF rfl (fun _ => refNm_ok _ _ _)) rfl rfl rfl rfl rfl ?_ | refine runL_g rfl rfl (qt_callF rfl (fun _ => refTx_ok _ _ x.txn)) rfl rfl rfl rfl rfl ?_)
  refine run_cond rfl (fun h => ?_) (fun h => ?_)
  · have hd : dD t x = true := h
    have hrf : r = false := by
      cases r with
      | false => rfl
      | true => have := (hr1.1 rfl).1.2; rw [hd] at this; cases this
    subst hrf
    repeat (first | refine zz ?_ | refine zx fun _ => ?_)
    exact run_ret hC (rs := [.tmp 2]) rfl (resT rfl resN) (fun _ h => h.drop.drop) ⟨rfl, rfl, rfl⟩
  have hd : dD t x = false := h
  clear h
  repeat (first | refine zz ?_ | refine zx fun _ => ?_)
  have hr2 : r = true ↔ (∀ m ∈ x.gives.xs, GvP m) ∧ (∀ m ∈ x.steps.xs, SpP m.sp) := by
    rw [hr1]
    exact ⟨fun q => q.2, fun q => ⟨⟨hb, hd⟩, q⟩⟩
  clear hr1
  refine run_loopN (fun j σ1 M1 L1 => j ≤ x.gives.len ∧ M = M1 ∧ (∀ m ∈ x.gives.xs.take j, GvP m) ∧ L1 = (bn, Obj.cells ⟨[.bool o, .bool au, .bool n, .bool g, .bool t, .bool y, .bool s]⟩ 119 (0, 0)) :: (bx, Obj.cells ⟨axC x⟩ 28 (0, 0)) :: L ∧ σ1 = [(5, .int .i64 (j : Int)), (1, .pointer (some ⟨bx, 0, none⟩))]) x.gives.len [(5, .int .i64 ((0 : Nat) : Int)), (1, .pointer (some ⟨bx, 0, none⟩))] ?_ ⟨Nat.zero_le _, rfl, by simp, rfl, rfl⟩ (fun j _ _ _ h => h.1) ?_
  · exact ⟨rfl, rfl, trivial⟩
  rintro j _ _ _ ⟨hj, rfl, hall, rfl, rfl⟩ hnext
  repeat (first | refine zz ?_ | refine zx fun _ => ?_)
  refine run_cond rfl (fun h => ?_) (fun h => ?_)
  · have hlt : j < x.gives.len := by simpa using h
    obtain ⟨b, off, m, hma, hm, hc⟩ := SMb.at_ hx.gives.1 hlt
    have hv : x.gives.v = .slice (some ⟨b, off, none⟩) x.gives.len x.gives.cap := by rw [← hma]; rfl
    have hmp := hx.pay m (List.mem_of_getElem? hm)
    repeat (first | refine zz ?_ | refine zx fun _ => ?_)
    refine runL_as 133 (.slice (some ⟨b, off, none⟩) x.gives.len x.gives.cap) rfl hv ?_
    repeat (first | refine runL_g rfl rfl (Qt.as (v' := Value.slice (some ⟨b, off, none⟩) x.gives.len x.gives.cap) (ql tok rfl) hv) rfl rfl rfl rfl rfl ?_ | refine zz ?_ | refine zx fun _ => ?_ | refine runL_q (qt_indexN tok rfl rfl rfl rfl (fun _ => by omega)) rfl rfl rfl ?_ | refine runL_g rfl rfl (qt_indexN tok rfl rfl rfl rfl (fun _ => by omega)) rfl rfl rfl rfl rfl ?_ | refine runL_q (qt_ldM tok rfl hc rfl) rfl rfl rfl ?_ | refine runL_g rfl rfl (qt_ldM tok rfl hc rfl) rfl rfl rfl rfl rfl ?_ | refine runL_q (qt_ldM0 tok rfl hc rfl) rfl rfl rfl ?_ | refine runL_g rfl rfl (qt_ldM0 tok rfl hc rfl) rfl rfl rfl rfl rfl ?_ | refine runL_q (qt_callF rfl (fun _ => refOrg_ok _ _ m.org)) rfl rfl rfl ?_ | refine runL_g rfl rfl (qt_callF rfl (fun _ => ref06May_ok _ _ m.digest (by omega))) rfl rfl rfl rfl rfl ?_)
    refine run_cond rfl (fun h => ?_) (fun h => ?_)
    · have hno : ¬ GvP m := fun e => by have h1 := (gvB_iff h).2 e; cases h1
      have hrf : r = false := by
        cases r with
        | false => rfl
        | true => exact absurd ((hr2.1 rfl).1 m (List.mem_of_getElem? hm)) hno
      subst hrf
      repeat (first | refine zz ?_ | refine zx fun _ => ?_)
      exact run_ret hC (rs := [.tmp 2]) rfl (resT rfl resN) (fun _ h => h.drop.drop) ⟨rfl, rfl, rfl⟩
    · have hgp : GvP m := (gvB_iff h).1 rfl
      repeat (first | refine zz ?_ | refine zx fun _ => ?_)
      refine run_sub' (hnext _ _ _ ⟨hlt, rfl, ?_, rfl, rfl⟩) ⟨lk_succ rfl (by omega), rfl, trivial⟩
      intro y hy
      rw [take_snoc hm] at hy
      rcases List.mem_append.1 hy with hy | hy
      · exact hall y hy
      · rw [List.mem_singleton.1 hy]; exact hgp
  have hge : j = x.gives.len := by simp at h; omega
  rw [hge, List.take_of_length_le (by omega)] at hall
  have hr3 : r = true ↔ ∀ m ∈ x.steps.xs, SpP m.sp := by
    rw [hr2]
    exact ⟨fun q => q.2, fun q => ⟨hall, q⟩⟩
  clear hnext h hr2
  repeat (first | refine zz ?_ | refine zx fun _ => ?_)
  refine run_loopN (fun j σ1 M1 L1 => j ≤ x.steps.len ∧ M = M1 ∧ (∀ m ∈ x.steps.xs.take j, SpP m.sp) ∧ L1 = (bn, Obj.cells ⟨[.bool o, .bool au, .bool n, .bool g, .bool t, .bool y, .bool s]⟩ 119 (0, 0)) :: (bx, Obj.cells ⟨axC x⟩ 28 (0, 0)) :: L ∧ σ1 = [(6, .int .i64 (j : Int)), (1, .pointer (some ⟨bx, 0, none⟩))]) x.steps.len [(6, .int .i64 ((0 : Nat) : Int)), (1, .pointer (some ⟨bx, 0, none⟩))] ?_ ⟨Nat.zero_le _, rfl, by simp, rfl, rfl⟩ (fun j _ _ _ h => h.1) ?_
  · exact ⟨rfl, rfl, trivial⟩
  rintro i _ _ _ ⟨hi, rfl, halls, rfl, rfl⟩ hnext
  repeat (first | refine zz ?_ | refine zx fun _ => ?_)
  refine run_cond rfl (fun h => ?_) (fun h => ?_)
  · have hlt : i < x.steps.len := by simpa using h
    obtain ⟨b, off, m, hma, hm, hc⟩ := SSr.at_ hx.steps.sl hlt
    have hv : x.steps.v = .slice (some ⟨b, off, none⟩) x.steps.len x.steps.cap := by rw [← hma]; rfl
    have hmo := hx.steps.each m (List.mem_of_getElem? hm)
    repeat (first | refine zz ?_ | refine zx fun _ => ?_)
    refine runL_as 158 (.slice (some ⟨b, off, none⟩) x.steps.len x.steps.cap) rfl hv ?_
    obtain ⟨rm, hrm⟩ : ∃ rm : Bool, rm = true ↔ SpP m.sp := by
      by_cases hq : SpP m.sp
      · exact ⟨true, by simp [hq]⟩
      · exact ⟨false, by simp [hq]⟩
    repeat (first | refine zz ?_ | refine zx fun _ => ?_ | refine runL_q (qt_indexN tok rfl rfl rfl rfl (fun _ => by omega)) rfl rfl rfl ?_ | refine runL_g rfl rfl (qt_indexN tok rfl rfl rfl rfl (fun _ => by omega)) rfl rfl rfl rfl rfl ?_ | refine runL_q (qt_ldM tok rfl hc rfl) rfl rfl rfl ?_ | refine runL_g rfl rfl (qt_ldM tok rfl hc rfl) rfl rfl rfl rfl rfl ?_ | refine runL_q (qt_ldM0 tok rfl hc rfl) rfl rfl rfl ?_ | refine runL_g rfl rfl (qt_ldM0 tok rfl hc rfl) rfl rfl rfl rfl rfl ?_ | refine runL_q (qt_callF rfl (fun _ => refMayStep_ok _ _ m hmo rm hrm)) rfl rfl rfl ?_)
    refine run_cond rfl (fun h => ?_) (fun h => ?_)
    · have hno : ¬ SpP m.sp := fun e => by have h1 := hrm.2 e; rw [h1] at h; cases h
      have hrf : r = false := by
        cases r with
        | false => rfl
        | true => exact absurd (hr3.1 rfl m (List.mem_of_getElem? hm)) hno
      subst hrf
      repeat (first | refine zz ?_ | refine zx fun _ => ?_)
      exact run_ret hC (rs := [.tmp 2]) rfl (resT rfl resN) (fun _ h => h.drop.drop) ⟨rfl, rfl, rfl⟩
    · have hgp : SpP m.sp := hrm.1 (by simpa using h)
      repeat (first | refine zz ?_ | refine zx fun _ => ?_)
      refine run_sub' (hnext _ _ _ ⟨hlt, rfl, ?_, rfl, rfl⟩) ⟨lk_succ rfl (by omega), rfl, trivial⟩
      intro y hy
      rw [take_snoc hm] at hy
      rcases List.mem_append.1 hy with hy | hy
      · exact halls y hy
      · rw [List.mem_singleton.1 hy]; exact hgp
  have hge2 : i = x.steps.len := by simp at h; omega
  rw [hge2, List.take_of_length_le (by omega)] at halls
  have hrt : r = true := hr3.2 halls
  subst hrt
  repeat (first | refine zz ?_ | refine zx fun _ => ?_)
  exact run_ret hC (rs := [.tmp 2]) rfl (resT rfl resN) (fun _ h => h.drop.drop) ⟨rfl, rfl, rfl⟩
end Go.Proofs.YtladcmfbkiogbaaGreatDoor
namespace Go.Proofs.YtladcmfbkiogbaaGreatDoor
open Go.Chi Go.Lib
set_option maxRecDepth 10000
theorem stepT_sz {x : Sp} (h : SpP x) : (stepT x).size ≤ 1400000 := by
  have h1 := kW_sz x.do_
  have h2 := fsB_sz h (kO x.do_)
  have h3 := tailV_sz h (tail_some h)
  have h4 : (kO x.do_).length ≤ 3 := by
    unfold kO
    repeat' split
    all_goals decide
  rw [stepT, app_size, app_size]; omega
theorem seqC_sz {c : Nat} : ∀ (l : List ByteArray) (f : Bool), (∀ t ∈ l, t.size ≤ c) → (seqC plusB f l).size ≤ (c + 3) * l.length
  | [], _, _ => Nat.zero_le _
  | x :: l, f, h => by
    have h1 := h x List.mem_cons_self
    have h2 := seqC_sz l false fun t ht => h t (List.mem_cons_of_mem _ ht)
    have h3 : plusB.size = 3 := rfl
    have h4 : (if f = true then x else plusB ++ x).size ≤ c + 3 := by
      split
      · omega
      · rw [app_size]; omega
    rw [seqC, app_size, List.length_cons, Nat.mul_add]; omega
set_option maxHeartbeats 8000000 in
theorem rsteps_ok (M : Mem) (L : HL) (hG : G38 M) (S : SSr) (hS : SsOk M S) (hp : ∀ x ∈ S.xs.map Sr.sp, SpP x) (h64 : S.xs.length ≤ 64) : TrQ Tryz.prog 41 [S.v] M L (.string (stepsT (S.xs.map Sr.sp))) := by
  have hlen := hS.len
  have hlt6 := hS.lt
  have hst : ∀ x ∈ S.xs, (stepT x.sp).size ≤ 1400000 := fun x hx => stepT_sz (hp _ (List.mem_map_of_mem hx))
  have hall : ∀ j, (seqC plusB true ((S.xs.take j).map fun x => stepT x.sp)).size ≤ 1400003 * j := fun j => by
    refine Nat.le_trans (seqC_sz (c := 1400000) _ _ fun t ht => ?_) ?_
    · obtain ⟨x, hx, rfl⟩ := List.mem_map.1 ht
      exact hst x (List.mem_of_mem_take hx)
    · rw [List.length_map, List.length_take]
      exact Nat.mul_le_mul_left _ (Nat.min_le_left _ _)
  have hT : S.xs.map Sr.sp ≠ [] → stepsT (S.xs.map Sr.sp) = seqC plusB true (S.xs.map fun x => stepT x.sp) := fun h => by
    rw [stepsT, if_neg h, List.map_map]; rfl
  have hT0 : S.xs.map Sr.sp = [] → stepsT (S.xs.map Sr.sp) = wNothing := fun h => by rw [stepsT, if_pos h]
  have hcall := fun (L : HL) (x : Sr) (hx : x ∈ S.xs) => refStep_ok M L hG x (hS.each x hx) (hp _ (List.mem_map_of_mem hx))
  generalize hR : stepsT (S.xs.map Sr.sp) = R at *
  have hnl : S.xs.map Sr.sp = [] ↔ S.len = 0 := by rw [List.map_eq_nil_iff, ← List.length_eq_zero_iff, hlen]
  rw [hnl] at hT0
  have hT : S.len ≠ 0 → R = seqC plusB true (S.xs.map fun x => stepT x.sp) := fun h => hT fun e => h (hnl.1 e)
  clear hR hnl
  have hcall2 : ∀ (L : HL) (x : Sr), x ∈ S.xs → TrQ Tryz.prog 79 [.agg ⟨srC x⟩] M L (.tuple ⟨[.string (stepT x.sp), .agg ⟨srC (bareR x)⟩]⟩) := hcall
  clear hcall
  generalize hf : (fun x : Sr => stepT x.sp) = f at *
  have hfx : ∀ x : Sr, stepT x.sp = f x := fun x => by rw [← hf]
  simp only [hfx] at hst hcall2
  clear hfx hf
  refine Tr.intro 32 Tryz.func41 rfl rfl Tryz.call41 rfl ?_; intro C hC hro
  repeat (first | refine yy ?_ | refine yx fun _ => ?_)
  refine run_cond (t := (S.len : Int) == 0) rfl (fun h0 => ?_) (fun h0 => ?_)
  · have h0' : S.len = 0 := by simpa using h0
    repeat (first | refine yy ?_ | refine yx fun _ => ?_)
    exact run_ret hC (rs := [.tmp 2]) rfl (resT rfl resN) (fun _ h => h) ⟨by rw [hT0 h0']; rfl, rfl, rfl⟩
  have h0' : S.len ≠ 0 := by simpa using h0
  repeat (first | refine yy ?_ | refine yx fun _ => ?_)
  refine run_loopN (fun j σ1 M2 L2 => j ≤ S.len ∧ M = M2 ∧ L = L2 ∧ σ1 = [(4, iv j), (3, .string (seqC plusB true ((S.xs.take j).map f))), (0, S.v)]) S.len [(4, iv 0), (3, .string (seqC plusB true ((S.xs.take 0).map f))), (0, S.v)] ?_ ⟨Nat.zero_le _, rfl, rfl, rfl⟩ (fun j _ _ _ h => h.1) ?_
  · exact ⟨rfl, rfl, rfl, trivial⟩
  rintro j _ _ _ ⟨hj, rfl, rfl, rfl⟩ hnext
  repeat (first | refine yy ?_ | refine yx fun _ => ?_)
  refine run_cond (t := decide ((j : Int) < (S.len : Int))) rfl (fun h2 => ?_) (fun h2 => ?_)
  · have hlt : j < S.len := by have := of_decide_eq_true h2; omega
    obtain ⟨b, off, m, hma, hm, hc⟩ := SSr.at_ hS.sl hlt
    have hv : S.v = .slice (some ⟨b, off, none⟩) S.len S.cap := by rw [← hma]; rfl
    have hmm := List.mem_of_getElem? hm
    have hmz := hst m hmm
    have hq := fun L => hcall2 L m hmm
    have hlj := hall j
    have hsn := seqC_snoc plusB (f m) ((S.xs.take j).map f) true
    rw [← List.map_singleton, ← List.map_append, ← take_snoc hm] at hsn
    have hp3 : plusB.size = 3 := rfl
    have hacc : (if j = 0 then seqC plusB true ((S.xs.take j).map f) else seqC plusB true ((S.xs.take j).map f) ++ plusB) ++ f m = seqC plusB true ((S.xs.take (j + 1)).map f) := by
      rw [hsn]
      by_cases h0 : j = 0
      · subst h0; rfl
      · have he : ((S.xs.take j).map f).isEmpty = false := by
          rw [List.isEmpty_eq_false_iff, ne_eq, List.map_eq_nil_iff, List.take_eq_nil_iff]
          rintro (h | h)
          · exact h0 h
          · rw [h] at hlen; simp at hlen; omega
        rw [if_neg h0, he, app_assoc]; rfl
    generalize bareR m = y at *
    generalize f m = u at *
    refine run_as 0 (.slice (some ⟨b, off, none⟩) S.len S.cap) rfl hv ?_
    repeat (first | refine yy ?_ | refine yx fun _ => ?_ | refine qc (hq _) ?_)
    rename_i b6
    generalize hQ : seqC plusB true ((S.xs.take j).map f) = Q at *
    refine run_condI (fun σ' M' L' => M = M' ∧ L' = (b6, .cells ⟨srC y⟩ 60 (0, 0)) :: L ∧ σ' = [(3, .string (if j = 0 then Q else Q ++ plusB)), (5, .string u), (4, iv j), (0, .slice (some ⟨b, off, none⟩) S.len S.cap)]) (t := decide ((j : Int) > 0)) rfl (fun h hk => ?_) (fun h hk => ?_) ?_
    · have hj0 : j ≠ 0 := by have := of_decide_eq_true h; omega
      have hcc : Q.size + plusB.size < 4611686018427387904 := by omega
      refine yy ?_
      refine yy ?_
      refine yy ?_
      refine yy ?_
      refine yy ?_
      exact run_sub' (hk _ _ _ ⟨rfl, rfl, rfl⟩) ⟨by rw [if_neg hj0]; rfl, rfl, rfl, rfl, trivial⟩
    · have hj0 : j = 0 := by have := of_decide_eq_false h; omega
      refine yy ?_
      exact run_sub' (hk _ _ _ ⟨rfl, rfl, rfl⟩) ⟨by rw [if_pos hj0]; rfl, rfl, rfl, rfl, trivial⟩
    rintro _ _ _ ⟨rfl, rfl, rfl⟩
    have hcc2 : (if j = 0 then Q else Q ++ plusB).size + u.size < 4611686018427387904 := by
      split
      · omega
      · rw [app_size]; omega
    repeat (first | refine yy ?_ | refine yx fun _ => ?_ | refine vq ?_ (qt_concat rfl rfl hcc2))
    refine run_mem (fun _ h => h.drop) ?_
    exact run_sub' (hnext _ _ _ ⟨hlt, rfl, rfl, rfl⟩) ⟨lk_succ rfl (by omega), by rw [← hacc]; rfl, by rw [hv]; rfl, trivial⟩
  · have hge : j = S.len := by have := of_decide_eq_false h2; omega
    rw [hge, List.take_of_length_le (by omega), ← hT h0']
    repeat (first | refine yy ?_ | refine yx fun _ => ?_)
    exact run_ret hC (rs := [.tmp 2]) rfl (resT rfl resN) (fun _ h => h) ⟨rfl, rfl, rfl⟩
end Go.Proofs.YtladcmfbkiogbaaGreatDoor
namespace Go.Proofs.YtladcmfbkiogbaaGreatDoor
open Go.Chi Go.Lib
set_option maxRecDepth 10000
set_option maxHeartbeats 32000000 in
theorem rmay_ok (M : Mem) (L : HL) (hG : G38 M) (S : SStr) (hS : StOk M S) (hz : ∀ x ∈ S.xs, x.size < 1000000) (x : Ax) (hx : AxOk M x) (r : Bool) (hr : r = true ↔ rollB S.xs = true ∧ AcP x.aa ∧ MayL S.xs.length x.aa) : TrQ Tryz.prog 37 [S.v, .agg ⟨axC x⟩] M L (.bool r) := by
  have hlen := hS.len
  have l1 := hx.gives.len
  have l3 := hx.steps.len
  have n1 := hx.gives.2
  have n3 := hx.steps.lt
  have hroll := fun L => refRoll_ok M L S hS hz
  obtain ⟨rA, hrA⟩ : ∃ rA : Bool, rA = true ↔ AcP x.aa := by
    by_cases h : AcP x.aa
    · exact ⟨true, by simp [h]⟩
    · exact ⟨false, by simp [h]⟩
  have hmay := fun L => refMay_ok M L x hx rA hrA
  have hOf0 := fun L => refOf_ok M L x.do_
  obtain ⟨o, au, n, g, t, y, s, hof, f1, f2, f3, f4, f5, f6, f7⟩ := of_ex x.do_
  have hOf : ∀ L', TrQ Tryz.prog 78 [.int .u8 x.do_] M L' (.tuple ⟨[.agg ⟨[.bool o, .bool au, .bool n, .bool g, .bool t, .bool y, .bool s]⟩, .bool (decide (1 ≤ x.do_ ∧ x.do_ ≤ 10))]⟩) := by
    intro L'
    have := hOf0 L'
    rw [hof] at this
    exact this
  clear hOf0 hof
  generalize rollB S.xs = rb at *
  have hlen' : (S.xs.length : Int) = (S.len : Int) := by rw [hlen]
  rw [hlen'] at hr
  have hrf : ¬ (rb = true ∧ AcP x.aa ∧ MayL S.len x.aa) → r = false := fun h => by
    cases r with
    | false => rfl
    | true => exact absurd (hr.1 rfl) h
  refine Tr.intro 97 Tryz.func37 rfl rfl Tryz.call37 rfl ?_; intro C hC hro
  repeat (first | refine yy ?_ | refine yx fun _ => ?_ | refine qc (hroll _) ?_ | refine gc (hmay _) ?_)
  rename_i b3
  refine run_cond (t := !rb || !rA) rfl (fun h => ?_) (fun h => ?_)
  · have hf := hrf fun q => by
      have h2 := hrA.2 q.2.1
      rw [q.1, h2] at h; cases h
    repeat (first | refine yy ?_ | refine yx fun _ => ?_)
    exact run_ret hC (rs := [.tmp 4]) rfl (resT rfl resN) (fun _ h => h.drop) ⟨by rw [hf]; rfl, rfl, rfl⟩
  simp only [Bool.or_eq_false_iff, Bool.not_eq_false'] at h
  obtain ⟨hrb, hra⟩ := h
  have hac := hrA.1 hra
  have hk := hac.fit.do_
  have hsp := hac.fit.steps.2
  have hr2 : r = true ↔ MayL S.len x.aa := by rw [hr]; exact ⟨fun q => q.2.2, fun q => ⟨hrb, hac, q⟩⟩
  have hrf2 : ¬ MayL S.len x.aa → r = false := fun h => hrf fun q => h q.2.2
  have hk' : 1 ≤ x.do_ ∧ x.do_ ≤ 10 := hk
  have f1 := f1 hk'
  have f2 := f2 hk'
  have f5 := f5 hk'
  clear hr hrf f3 f4 f6 f7 hmay hroll hrA
  repeat (first | refine yy ?_ | refine yx fun _ => ?_ | refine qc (hOf _) ?_)
  rename_i b5
  refine run_cond (t := ((o && decide (x.org ≥ (S.len : Int))) || (au && decide (x.auditor ≥ (S.len : Int)))) || (t && decide (x.txn.coord ≥ (S.len : Int)))) rfl (fun h => ?_) (fun h => ?_)
  · have hf := hrf2 fun q => by
      simp only [Bool.or_eq_true, Bool.and_eq_true, decide_eq_true_eq] at h
      rcases h with (⟨h1, h2⟩ | ⟨h1, h2⟩) | ⟨h1, h2⟩
      · have := q.org (f1.1 h1); have e : x.aa.org = x.org := rfl; omega
      · have := q.aud (f2.1 h1); have e : x.aa.auditor = x.auditor := rfl; omega
      · have := q.tx (f5.1 h1); have e : x.aa.txn.coord = x.txn.coord := rfl; omega
    repeat (first | refine yy ?_ | refine yx fun _ => ?_)
    exact run_ret hC (rs := [.tmp 4]) rfl (resT rfl resN) (fun _ h => h.drop.drop) ⟨by rw [hf]; rfl, rfl, rfl⟩
  have hbase : (x.do_ ≠ 4 → x.org < (S.len : Int)) ∧ (x.do_ = 1 → x.auditor < (S.len : Int)) ∧ (x.do_ = 2 ∨ x.do_ = 9 → x.txn.coord < (S.len : Int)) := by
    simp only [Bool.or_eq_false_iff, Bool.and_eq_false_iff, decide_eq_false_iff_not] at h
    obtain ⟨⟨h1, h2⟩, h3⟩ := h
    refine ⟨fun q => ?_, fun q => ?_, fun q => ?_⟩
    · rcases h1 with h1 | h1
      · rw [f1.2 q] at h1; cases h1
      · omega
    · rcases h2 with h2 | h2
      · rw [f2.2 q] at h2; cases h2
      · omega
    · rcases h3 with h3 | h3
      · rw [f5.2 q] at h3; cases h3
      · omega
  clear h f1 f2 f5 hOf
  repeat (first | refine yy ?_ | refine yx fun _ => ?_)
  refine run_loopN (fun j σ1 M1 L1 => j ≤ x.gives.len ∧ M = M1 ∧ (∀ m ∈ x.gives.xs.take j, m.org < (S.len : Int)) ∧ L1 = (b5, Obj.cells ⟨[.bool o, .bool au, .bool n, .bool g, .bool t, .bool y, .bool s]⟩ 119 (0, 0)) :: (b3, Obj.cells ⟨axC x⟩ 28 (0, 0)) :: L ∧ σ1 = [(7, iv j), (3, pt b3), (0, S.v)]) x.gives.len [(7, iv 0), (3, pt b3), (0, S.v)] ?_ ⟨Nat.zero_le _, rfl, (fun _ h => by cases h), rfl, rfl⟩ (fun j _ _ _ h => h.1) ?_
  · exact ⟨rfl, rfl, rfl, trivial⟩
  rintro j _ _ _ ⟨hj, rfl, hall, rfl, rfl⟩ hnext
  repeat (first | refine yy ?_ | refine yx fun _ => ?_)
  refine run_cond (t := decide ((j : Int) < (x.gives.len : Int))) rfl (fun h => ?_) (fun h => ?_)
  · have hlt : j < x.gives.len := by have := of_decide_eq_true h; omega
    obtain ⟨b, off, m, hma, hm, hc⟩ := SMb.at_ hx.gives.1 hlt
    have hv : x.gives.v = .slice (some ⟨b, off, none⟩) x.gives.len x.gives.cap := by rw [← hma]; rfl
    repeat (first | refine yy ?_ | refine yx fun _ => ?_)
    refine runL_as 65 (.slice (some ⟨b, off, none⟩) x.gives.len x.gives.cap) rfl hv ?_
    repeat (first | refine yy ?_ | refine yx fun _ => ?_)
    refine run_cond (t := decide (m.org ≥ (S.len : Int))) rfl (fun h => ?_) (fun h => ?_)
    · have hf := hrf2 fun q => by
        have := q.gives m (List.mem_of_getElem? hm)
        have := of_decide_eq_true h
        omega
      repeat (first | refine yy ?_ | refine yx fun _ => ?_)
      exact run_ret hC (rs := [.tmp 4]) rfl (resT rfl resN) (fun _ h => h.drop.drop) ⟨by rw [hf]; rfl, rfl, rfl⟩
    · have hmo := of_decide_eq_false h
      repeat (first | refine yy ?_ | refine yx fun _ => ?_)
      refine run_sub' (hnext _ _ _ ⟨hlt, rfl, ?_, rfl, rfl⟩) ⟨lk_succ rfl (by omega), rfl, rfl, trivial⟩
      intro z hz
      rw [take_snoc hm] at hz
      rcases List.mem_append.1 hz with hz | hz
      · exact hall z hz
      · rw [List.mem_singleton.1 hz]; omega
  have hge : j = x.gives.len := by have := of_decide_eq_false h; omega
  rw [hge, List.take_of_length_le (by omega)] at hall
  clear hnext h
  repeat (first | refine yy ?_ | refine yx fun _ => ?_)
  refine run_loopN (fun j σ1 M1 L1 => j ≤ x.steps.len ∧ M = M1 ∧ (∀ m ∈ x.steps.xs.take j, bareS m.sp = true) ∧ L1 = (b5, Obj.cells ⟨[.bool o, .bool au, .bool n, .bool g, .bool t, .bool y, .bool s]⟩ 119 (0, 0)) :: (b3, Obj.cells ⟨axC x⟩ 28 (0, 0)) :: L ∧ σ1 = [(8, iv j), (3, pt b3)]) x.steps.len [(8, iv 0), (3, pt b3)] ?_ ⟨Nat.zero_le _, rfl, (fun _ h => by cases h), rfl, rfl⟩ (fun j _ _ _ h => h.1) ?_
  · exact ⟨rfl, rfl, trivial⟩
  rintro i _ _ _ ⟨hi, rfl, halls, rfl, rfl⟩ hnext
  repeat (first | refine yy ?_ | refine yx fun _ => ?_)
  refine run_cond (t := decide ((i : Int) < (x.steps.len : Int))) rfl (fun h => ?_) (fun h => ?_)
  · have hlt : i < x.steps.len := by have := of_decide_eq_true h; omega
    obtain ⟨b, off, m, hma, hm, hc⟩ := SSr.at_ hx.steps.sl hlt
    have hv : x.steps.v = .slice (some ⟨b, off, none⟩) x.steps.len x.steps.cap := by rw [← hma]; rfl
    have hmm := List.mem_of_getElem? hm
    have hmo := hx.steps.each m hmm
    have hq := fun L => refStep_ok M L hG m hmo (hsp m.sp (List.mem_map_of_mem hmm))
    have hss := fun L => refSameStep_ok M L m (bareR m) hmo (bareR_ok hmo)
    have hiff : sameSp m.sp (bareR m).sp = true ↔ bareS m.sp = true := by rw [sameSp_iff, bareR_sp, bareP_iff]
    generalize sameSp m.sp (bareR m).sp = rs at *
    generalize bareR m = z at *
    generalize stepT m.sp = u at *
    repeat (first | refine yy ?_ | refine yx fun _ => ?_)
    refine runL_as 82 (.slice (some ⟨b, off, none⟩) x.steps.len x.steps.cap) rfl hv ?_
    repeat (first | refine yy ?_ | refine yx fun _ => ?_ | refine qc (hq _) ?_)
    rename_i b10
    refine dd ?_
    iterate 3 refine yd ?_
    refine pr_as 90 (.slice (some ⟨b, off, none⟩) x.steps.len x.steps.cap) rfl hv ?_
    repeat (first | refine yy ?_ | refine dd ?_ | refine yd ?_ | refine yx fun _ => ?_ | refine pc (hss _) ?_)
    refine run_cond (t := !rs) rfl (fun h => ?_) (fun h => ?_)
    · have hf := hrf2 fun q => by
        have := hiff.2 (q.steps m.sp (List.mem_map_of_mem hmm))
        rw [this] at h; cases h
      repeat (first | refine yy ?_ | refine yx fun _ => ?_)
      exact run_ret hC (rs := [.tmp 4]) rfl (resT rfl resN) (fun _ h => h.drop.drop.drop) ⟨by rw [hf]; rfl, rfl, rfl⟩
    · have hb : bareS m.sp = true := hiff.1 (by simpa using h)
      repeat (first | refine yy ?_ | refine yx fun _ => ?_)
      refine run_mem (fun _ h => h.drop) ?_
      refine run_sub' (hnext _ _ _ ⟨hlt, rfl, ?_, rfl, rfl⟩) ⟨lk_succ rfl (by omega), rfl, trivial⟩
      intro z hz
      rw [take_snoc hm] at hz
      rcases List.mem_append.1 hz with hz | hz
      · exact halls z hz
      · rw [List.mem_singleton.1 hz]; exact hb
  have hge2 : i = x.steps.len := by have := of_decide_eq_false h; omega
  rw [hge2, List.take_of_length_le (by omega)] at halls
  have ht : r = true := hr2.2 ⟨hbase.1, hbase.2.1, hbase.2.2, hall, fun z hz => by
    obtain ⟨m, hm, rfl⟩ := List.mem_map.1 hz
    exact halls m hm⟩
  repeat (first | refine yy ?_ | refine yx fun _ => ?_)
  exact run_ret hC (rs := [.tmp 4]) rfl (resT rfl resN) (fun _ h => h.drop.drop) ⟨by rw [ht]; rfl, rfl, rfl⟩
end Go.Proofs.YtladcmfbkiogbaaGreatDoor
namespace Go.Proofs.YtladcmfbkiogbaaGreatDoor
open Go.Chi Go.Lib
set_option maxRecDepth 10000
set_option maxHeartbeats 32000000 in
theorem rline_ok (M : Mem) (L : HL) (hG : G38 M) (S : SStr) (hS : StOk M S) (hz : ∀ x ∈ S.xs, x.size < 1000000) (x : Ax) (hx : AxOk M x) : TrQ Tryz.prog 13 [S.v, .agg ⟨axC x⟩] M L (.tuple ⟨[.string (lineA S.xs x.aa).1, .int .i64 (lineA S.xs x.aa).2]⟩) := by
  obtain ⟨hd1, hd2⟩ := line_doc S.xs x.aa
  by_cases hq : rollB S.xs = true ∧ AcP x.aa ∧ MayL S.xs.length x.aa
  rotate_left
  · have hm := fun L => rmay_ok M L hG S hS hz x hx false (by simp [hq])
    rw [hd2 hq]
    clear hd1 hd2 hq
    refine Tr.intro 143 Tryz.func13 rfl rfl Tryz.call13 rfl ?_; intro C hC hro
    repeat (first | refine yy ?_ | refine yx fun _ => ?_ | refine run_cond (t := true) rfl (fun _ => ?_) (fun h => by cases h) | refine run_cond (t := false) rfl (fun h => by cases h) (fun _ => ?_) | refine qc (hm _) ?_)
    exact run_ret hC (rs := [.tmp 4, .tmp 5]) rfl (resT rfl (resT rfl resN)) (fun _ h => h.drop) ⟨rfl, rfl, rfl⟩
  have hm := fun L => rmay_ok M L hG S hS hz x hx true (by simp [hq])
  rw [hd1 hq]
  clear hd1 hd2
  obtain ⟨_, hac, hml⟩ := hq
  have hfit := hac.fit
  have hlen := hS.len
  have hat := fun {k : Nat} (h : k < S.len) => SStr.at_ hS.1 h
  have hnat : ∀ {k : Nat} {m : ByteArray}, S.xs[k]? = some m → nameT S.xs (k : Int) = m := fun h => by rw [nameT, Int.toNat_natCast, h]; rfl
  have htx := fun L (h : (x.aa.do_ = 2 ∨ x.aa.do_ = 9)) => rtxn_ok M L hG S hS hz x.txn ⟨hfit.tx.1, hml.tx h⟩ hfit.tx.2.1 hfit.tx.2.2
  have htz : (txnT S.xs x.txn).size ≤ 1000100 := by
    have h1 := dgB_sz hfit.tx.2.1.2
    have h2 := dgB_sz hfit.tx.2.2.2
    have h3 : slB.size = 1 := rfl
    have h4 : (nameT S.xs x.txn.coord).size ≤ 1000000 := by
      unfold nameT
      cases hg : S.xs[x.txn.coord.toNat]? with
      | none => exact Nat.zero_le _
      | some y => exact Nat.le_of_lt (hz y (List.mem_of_getElem? hg))
    have e1 : x.aa.txn = x.txn := rfl
    rw [e1] at h1 h2
    simp only [txnT, app_size]; omega
  have hst := fun L => rsteps_ok M L hG x.steps hx.steps hfit.steps.2 (by have := hfit.steps.1; simpa [Ax.aa] using this)
  have hsz : (stepsT (x.steps.xs.map Sr.sp)).size ≤ 90000000 := by
    have h6 : stepsV x.aa.steps = some (stepsT x.aa.steps) := by rw [stepsV_some hfit.steps.2, if_pos hml.steps]
    exact stepsV_sz hfit.steps.1 hfit.steps.2 h6
  have hnum := fun L => rnum_ok M L hG x.n hfit.n.1 (by have := hfit.n.2; have e : x.aa.n = x.n := rfl; omega)
  have hnz := dgB_sz (n := x.n) (by have := hfit.n.2; have e : x.aa.n = x.n := rfl; omega)
  have hdo := hfit.do_
  have horg : x.aa.do_ ≠ 4 → ∃ k : Nat, x.org = (k : Int) ∧ k < S.len := fun h => by
    have h1 := hml.org h
    obtain ⟨k, hk⟩ := Int.eq_ofNat_of_zero_le hfit.org.1
    exact ⟨k, hk, by omega⟩
  have hgvs := hfit.gives
  have hgvo := hml.gives
  have haud : x.aa.do_ = 1 → ∃ k : Nat, x.auditor = (k : Int) ∧ k < S.len := fun h => by
    have h1 := hml.aud h
    obtain ⟨k, hk⟩ := Int.eq_ofNat_of_zero_le hfit.aud.1
    exact ⟨k, hk, by omega⟩
  clear hac hfit hml
  obtain ⟨sa, sn, sc, xs⟩ := S
  obtain ⟨d, og, au, n, gv, tx, ye, st⟩ := x
  simp only [Ax.aa, SStr.v] at *
  have hd10 : d = 1 ∨ d = 2 ∨ d = 3 ∨ d = 4 ∨ d = 5 ∨ d = 6 ∨ d = 7 ∨ d = 8 ∨ d = 9 ∨ d = 10 := by omega
  rcases hd10 with rfl | rfl | rfl | rfl | rfl | rfl | rfl | rfl | rfl | rfl
  · obtain ⟨k, rfl, hk⟩ := horg (by decide)
    obtain ⟨ka, rfl, hka⟩ := haud rfl
    obtain ⟨b, off, nm, rfl, hnm, hc⟩ := hat hk
    obtain ⟨b', off', am, e', ham, hca⟩ := hat hka
    cases e'
    have hnz2 := hz nm (List.mem_of_getElem? hnm)
    have haz := hz am (List.mem_of_getElem? ham)
    have he : lineT xs ⟨1, (k : Int), (ka : Int), n, gv.xs, tx, ye, st.xs.map Sr.sp⟩ = ((nm ++ vBegins) ++ am) ++ givesT xs true gv.xs := by
      rw [show lineT xs ⟨1, (k : Int), (ka : Int), n, gv.xs, tx, ye, st.xs.map Sr.sp⟩ = nameT xs (k : Int) ++ ((vBegins ++ nameT xs (ka : Int)) ++ givesT xs true gv.xs) from rfl, hnat hnm, hnat ham]
      simp only [app_assoc]
    rw [he]
    clear he htx htz hst hsz hnum hnz
    have h12 : vBegins.size = 12 := rfl
    have hc1 : nm.size + vBegins.size < 4611686018427387904 := by omega
    have hc2 : (nm ++ vBegins).size + am.size < 4611686018427387904 := by rw [app_size]; omega
    have hgl : gv.xs.length = gv.len := hx.gives.len
    have hg6 := hgvs.1
    have hpay : ∀ m ∈ gv.xs, m.digest.size < 1000000 := fun m hm => by
      have h1 := (hgvs.2 m hm).2
      have h2 : m.digest.size < 1099511627776 := hx.pay m hm
      have := ((mayB_iff (by omega)).1 (by rw [mayB, h1]; rfl : mayB m.digest = true)).2
      omega
    have hgo : ∀ m ∈ gv.xs, ∃ k : Nat, m.org = (k : Int) ∧ k < sn := fun m hm => by
      have h1 := hgvo m hm
      obtain ⟨k, hk⟩ := Int.eq_ofNat_of_zero_le (rIn (hgvs.2 m hm).1).1
      exact ⟨k, hk, by omega⟩
    clear hgvs hgvo
    refine Tr.intro 143 Tryz.func13 rfl rfl Tryz.call13 rfl ?_; intro C hC hro
    repeat (first | refine yy ?_ | refine yx fun _ => ?_ | refine run_cond (t := true) rfl (fun _ => ?_) (fun h => by cases h) | refine run_cond (t := false) rfl (fun h => by cases h) (fun _ => ?_) | refine qc (hm _) ?_)
    rename_i b3 _ _ _
    generalize hBase : (nm ++ vBegins) ++ am = base
    have hbz : base.size ≤ 3000000 := by rw [← hBase, app_size, app_size]; omega
    refine run_loopN (fun j σ1 M1 L1 => j ≤ gv.len ∧ M = M1 ∧ L1 = (b3, Obj.cells ⟨axC ⟨1, (k : Int), (ka : Int), n, gv, tx, ye, st⟩⟩ 28 (0, 0)) :: L ∧ ∃ s : ByteArray, s = base ++ givesT xs true (gv.xs.take j) ∧ s.size ≤ 3000000 + 2400000 * j ∧ σ1 = [(8, iv j), (7, .string s), (3, pt b3), (0, .slice (some ⟨b, off, none⟩) sn sc)]) gv.len [(8, iv 0), (7, .string base), (3, pt b3), (0, .slice (some ⟨b, off, none⟩) sn sc)] ?_ ⟨Nat.zero_le _, rfl, rfl, base, (app_nil _).symm, hbz, rfl⟩ (fun j _ _ _ h => h.1) ?_
    · exact ⟨rfl, by rw [← hBase]; rfl, rfl, rfl, trivial⟩
    rintro j _ _ _ ⟨hj, rfl, rfl, s, hs, hsz, rfl⟩ hnext
    repeat (first | refine yy ?_ | refine yx fun _ => ?_)
    refine run_cond (t := decide ((j : Int) < (gv.len : Int))) rfl (fun h => ?_) (fun h => ?_)
    · have hlt : j < gv.len := by have := of_decide_eq_true h; omega
      obtain ⟨gb, goff, m, gma, gm, gc⟩ := SMb.at_ hx.gives.1 hlt
      have hv : gv.v = .slice (some ⟨gb, goff, none⟩) gv.len gv.cap := by
        have gma : gv.a = _ := gma
        rw [← gma]; rfl
      have hmm := List.mem_of_getElem? gm
      obtain ⟨kg, hkg, hkgs⟩ := hgo m hmm
      obtain ⟨b'', off'', gn, e'', hgn, hcg⟩ := hat hkgs
      cases e''
      have hgz := hz gn (List.mem_of_getElem? hgn)
      have hql := fun L => refLine_ok M L m.digest (hpay m hmm)
      have hlz := lineE_sz (hpay m hmm)
      have hsn := givesT_snoc xs m (gv.xs.take j) true
      rw [← take_snoc gm, giveT, hkg, hnat hgn] at hsn
      generalize lineE m.digest = e at *
      obtain ⟨mo, md⟩ := m
      simp only at hkg hql hsn
      subst hkg
      have hemp : (true && (gv.xs.take j).isEmpty) = decide (j = 0) := by
        by_cases h0 : j = 0
        · subst h0; rfl
        · rw [decide_eq_false h0, Bool.true_and, List.isEmpty_eq_false_iff, ne_eq, List.take_eq_nil_iff]
          rintro (h | h)
          · exact h0 h
          · rw [h] at hgl; simp at hgl; omega
      rw [hemp] at hsn
      repeat (first | refine yy ?_ | refine yx fun _ => ?_)
      refine runL_as 49 (.slice (some ⟨gb, goff, none⟩) gv.len gv.cap) rfl hv ?_
      repeat (first | refine yy ?_ | refine yx fun _ => ?_ | refine qc (hql _) ?_)
      have hcol : colB.size = 2 := rfl
      have hsem : semB.size = 2 := rfl
      refine run_condI (fun σ' M' L' => M = M' ∧ L' = (b3, Obj.cells ⟨axC ⟨1, (k : Int), (ka : Int), n, gv, tx, ye, st⟩⟩ 28 (0, 0)) :: L ∧ σ' = [(7, .string (s ++ if decide (j = 0) = true then colB else semB)), (9, .string e.1), (8, iv j), (3, pt b3), (0, .slice (some ⟨b, off, none⟩) sn sc)]) (t := (j : Int) == 0) rfl (fun h hk => ?_) (fun h hk => ?_) ?_
      · have hj0 : j = 0 := by simpa using h
        have hcc : s.size + colB.size < 4611686018427387904 := by omega
        iterate 5 refine yy ?_
        exact run_sub' (hk _ _ _ ⟨rfl, rfl, rfl⟩) ⟨by rw [if_pos (decide_eq_true hj0)]; rfl, rfl, rfl, rfl, rfl, trivial⟩
      · have hj0 : j ≠ 0 := by simpa using h
        have hcc : s.size + semB.size < 4611686018427387904 := by omega
        iterate 5 refine yy ?_
        exact run_sub' (hk _ _ _ ⟨rfl, rfl, rfl⟩) ⟨by rw [if_neg (by simpa using hj0)]; rfl, rfl, rfl, rfl, rfl, trivial⟩
      rintro _ _ _ ⟨rfl, rfl, rfl⟩
      generalize hsp : (if decide (j = 0) = true then colB else semB) = sp at *
      have hsp2 : sp.size = 2 := by rw [← hsp]; split <;> rfl
      have h1s : sp1.size = 1 := rfl
      have q1 : (s ++ sp).size + gn.size < 4611686018427387904 := by rw [app_size]; omega
      have q2 : ((s ++ sp) ++ gn).size + sp1.size < 4611686018427387904 := by rw [app_size, app_size]; omega
      have q3 : (((s ++ sp) ++ gn) ++ sp1).size + e.1.size < 4611686018427387904 := by rw [app_size, app_size, app_size]; omega
      have hnew : (((s ++ sp) ++ gn) ++ sp1) ++ e.1 = base ++ givesT xs true (gv.xs.take (j + 1)) := by
        rw [hsn, hs]; simp only [app_assoc]
      have hnz3 : ((((s ++ sp) ++ gn) ++ sp1) ++ e.1).size ≤ 3000000 + 2400000 * (j + 1) := by simp only [app_size]; omega
      repeat (first | refine yy ?_ | refine yx fun _ => ?_)
      refine runL_as 66 (.slice (some ⟨gb, goff, none⟩) gv.len gv.cap) rfl hv ?_
      repeat (first | refine yy ?_ | refine yx fun _ => ?_ | refine vq ?_ (qt_concat rfl rfl q1) | refine vq ?_ (qt_concat rfl rfl q2) | refine vq ?_ (qt_concat rfl rfl q3))
      exact run_sub' (hnext _ _ _ ⟨hlt, rfl, rfl, _, hnew, hnz3, rfl⟩) ⟨lk_succ rfl (by omega), rfl, rfl, rfl, trivial⟩
    · have hge : j = gv.len := by have := of_decide_eq_false h; omega
      rw [hge, List.take_of_length_le (by omega)] at hs
      repeat (first | refine yy ?_ | refine yx fun _ => ?_)
      exact run_ret hC (rs := [.tmp 4, .tmp 5]) rfl (resT rfl (resT rfl resN)) (fun _ h => h.drop) ⟨by rw [hs, ← hBase]; rfl, rfl, rfl⟩
  · obtain ⟨k, rfl, hk⟩ := horg (by decide)
    obtain ⟨b, off, nm, rfl, hnm, hc⟩ := hat hk
    have hnz2 := hz nm (List.mem_of_getElem? hnm)
    have htx := fun L => htx L (.inl rfl)
    generalize hT : txnT xs tx = T at *
    cases ye with
    | true =>
      have he : lineT xs ⟨2, (k : Int), au, n, gv.xs, tx, true, st.xs.map Sr.sp⟩ = (nm ++ vYes) ++ T := by
        rw [show lineT xs ⟨2, (k : Int), au, n, gv.xs, tx, true, st.xs.map Sr.sp⟩ = nameT xs (k : Int) ++ (vYes ++ txnT xs tx) from rfl, hnat hnm, hT, app_assoc]
      rw [he]
      clear he
      have hv : vYes.size = 13 := rfl
      have hc1 : nm.size + vYes.size < 4611686018427387904 := by omega
      have hc2 : (nm ++ vYes).size + T.size < 4611686018427387904 := by rw [app_size]; omega
      refine Tr.intro 143 Tryz.func13 rfl rfl Tryz.call13 rfl ?_; intro C hC hro
      repeat (first | refine yy ?_ | refine yx fun _ => ?_ | refine run_cond (t := true) rfl (fun _ => ?_) (fun h => by cases h) | refine run_cond (t := false) rfl (fun h => by cases h) (fun _ => ?_) | refine qc (hm _) ?_ | refine qc (htx _) ?_)
      exact run_ret hC (rs := [.tmp 4, .tmp 5]) rfl (resT rfl (resT rfl resN)) (fun _ h => h.drop) ⟨rfl, rfl, rfl⟩
    | false =>
      have he : lineT xs ⟨2, (k : Int), au, n, gv.xs, tx, false, st.xs.map Sr.sp⟩ = (nm ++ vNo) ++ T := by
        rw [show lineT xs ⟨2, (k : Int), au, n, gv.xs, tx, false, st.xs.map Sr.sp⟩ = nameT xs (k : Int) ++ (vNo ++ txnT xs tx) from rfl, hnat hnm, hT, app_assoc]
      rw [he]
      clear he
      have hv : vNo.size = 12 := rfl
      have hc1 : nm.size + vNo.size < 4611686018427387904 := by omega
      have hc2 : (nm ++ vNo).size + T.size < 4611686018427387904 := by rw [app_size]; omega
      refine Tr.intro 143 Tryz.func13 rfl rfl Tryz.call13 rfl ?_; intro C hC hro
      repeat (first | refine yy ?_ | refine yx fun _ => ?_ | refine run_cond (t := true) rfl (fun _ => ?_) (fun h => by cases h) | refine run_cond (t := false) rfl (fun h => by cases h) (fun _ => ?_) | refine qc (hm _) ?_ | refine qc (htx _) ?_)
      exact run_ret hC (rs := [.tmp 4, .tmp 5]) rfl (resT rfl (resT rfl resN)) (fun _ h => h.drop) ⟨rfl, rfl, rfl⟩
  · obtain ⟨k, rfl, hk⟩ := horg (by decide)
    obtain ⟨b, off, nm, rfl, hnm, hc⟩ := hat hk
    have hnz2 := hz nm (List.mem_of_getElem? hnm)
    have he : lineT xs ⟨3, (k : Int), au, n, gv.xs, tx, ye, st.xs.map Sr.sp⟩ = nm ++ vTicks := by
      rw [show lineT xs ⟨3, (k : Int), au, n, gv.xs, tx, ye, st.xs.map Sr.sp⟩ = nameT xs (k : Int) ++ vTicks from rfl, hnat hnm]
    rw [he]
    clear he
    have hv : vTicks.size = 6 := rfl
    have hc1 : nm.size + vTicks.size < 4611686018427387904 := by omega
    refine Tr.intro 143 Tryz.func13 rfl rfl Tryz.call13 rfl ?_; intro C hC hro
    repeat (first | refine yy ?_ | refine yx fun _ => ?_ | refine run_cond (t := true) rfl (fun _ => ?_) (fun h => by cases h) | refine run_cond (t := false) rfl (fun h => by cases h) (fun _ => ?_) | refine qc (hm _) ?_)
    exact run_ret hC (rs := [.tmp 4, .tmp 5]) rfl (resT rfl (resT rfl resN)) (fun _ h => h.drop) ⟨rfl, rfl, rfl⟩
  · have he : lineT xs ⟨4, og, au, n, gv.xs, tx, ye, st.xs.map Sr.sp⟩ = (wPost ++ dgB n) ++ wComes := rfl
    rw [he]
    clear he
    have hv : wPost.size = 5 := rfl
    have hv2 : wComes.size = 6 := rfl
    have hc1 : wPost.size + (dgB n).size < 4611686018427387904 := by omega
    have hc2 : (wPost ++ dgB n).size + wComes.size < 4611686018427387904 := by rw [app_size]; omega
    refine Tr.intro 143 Tryz.func13 rfl rfl Tryz.call13 rfl ?_; intro C hC hro
    repeat (first | refine yy ?_ | refine yx fun _ => ?_ | refine run_cond (t := true) rfl (fun _ => ?_) (fun h => by cases h) | refine run_cond (t := false) rfl (fun h => by cases h) (fun _ => ?_) | refine qc (hm _) ?_ | refine qc (hnum _) ?_)
    exact run_ret hC (rs := [.tmp 4, .tmp 5]) rfl (resT rfl (resT rfl resN)) (fun _ h => h.drop) ⟨rfl, rfl, rfl⟩
  · obtain ⟨k, rfl, hk⟩ := horg (by decide)
    obtain ⟨b, off, nm, rfl, hnm, hc⟩ := hat hk
    have hnz2 := hz nm (List.mem_of_getElem? hnm)
    generalize hT : stepsT (st.xs.map Sr.sp) = T at *
    have he : lineT xs ⟨5, (k : Int), au, n, gv.xs, tx, ye, st.xs.map Sr.sp⟩ = (nm ++ vGets) ++ T := by
      rw [show lineT xs ⟨5, (k : Int), au, n, gv.xs, tx, ye, st.xs.map Sr.sp⟩ = nameT xs (k : Int) ++ (vGets ++ stepsT (st.xs.map Sr.sp)) from rfl, hnat hnm, hT, app_assoc]
    rw [he]
    clear he
    have hv : vGets.size = 6 := rfl
    have hc1 : nm.size + vGets.size < 4611686018427387904 := by omega
    have hc2 : (nm ++ vGets).size + T.size < 4611686018427387904 := by rw [app_size]; omega
    refine Tr.intro 143 Tryz.func13 rfl rfl Tryz.call13 rfl ?_; intro C hC hro
    repeat (first | refine yy ?_ | refine yx fun _ => ?_ | refine run_cond (t := true) rfl (fun _ => ?_) (fun h => by cases h) | refine run_cond (t := false) rfl (fun h => by cases h) (fun _ => ?_) | refine qc (hm _) ?_ | refine qc (hst _) ?_)
    exact run_ret hC (rs := [.tmp 4, .tmp 5]) rfl (resT rfl (resT rfl resN)) (fun _ h => h.drop) ⟨rfl, rfl, rfl⟩
  · obtain ⟨k, rfl, hk⟩ := horg (by decide)
    obtain ⟨b, off, nm, rfl, hnm, hc⟩ := hat hk
    have hnz2 := hz nm (List.mem_of_getElem? hnm)
    have he : lineT xs ⟨6, (k : Int), au, n, gv.xs, tx, ye, st.xs.map Sr.sp⟩ = (nm ++ vStops) ++ dgB n := by
      rw [show lineT xs ⟨6, (k : Int), au, n, gv.xs, tx, ye, st.xs.map Sr.sp⟩ = nameT xs (k : Int) ++ (vStops ++ dgB n) from rfl, hnat hnm, app_assoc]
    rw [he]
    clear he
    have hv : vStops.size = 14 := rfl
    have hc1 : nm.size + vStops.size < 4611686018427387904 := by omega
    have hc2 : (nm ++ vStops).size + (dgB n).size < 4611686018427387904 := by rw [app_size]; omega
    refine Tr.intro 143 Tryz.func13 rfl rfl Tryz.call13 rfl ?_; intro C hC hro
    repeat (first | refine yy ?_ | refine yx fun _ => ?_ | refine run_cond (t := true) rfl (fun _ => ?_) (fun h => by cases h) | refine run_cond (t := false) rfl (fun h => by cases h) (fun _ => ?_) | refine qc (hm _) ?_ | refine qc (hnum _) ?_)
    exact run_ret hC (rs := [.tmp 4, .tmp 5]) rfl (resT rfl (resT rfl resN)) (fun _ h => h.drop) ⟨rfl, rfl, rfl⟩
  · obtain ⟨k, rfl, hk⟩ := horg (by decide)
    obtain ⟨b, off, nm, rfl, hnm, hc⟩ := hat hk
    have hnz2 := hz nm (List.mem_of_getElem? hnm)
    have he : lineT xs ⟨7, (k : Int), au, n, gv.xs, tx, ye, st.xs.map Sr.sp⟩ = (nm ++ vCrash) ++ dgB n := by
      rw [show lineT xs ⟨7, (k : Int), au, n, gv.xs, tx, ye, st.xs.map Sr.sp⟩ = nameT xs (k : Int) ++ (vCrash ++ dgB n) from rfl, hnat hnm, app_assoc]
    rw [he]
    clear he
    have hv : vCrash.size = 19 := rfl
    have hc1 : nm.size + vCrash.size < 4611686018427387904 := by omega
    have hc2 : (nm ++ vCrash).size + (dgB n).size < 4611686018427387904 := by rw [app_size]; omega
    refine Tr.intro 143 Tryz.func13 rfl rfl Tryz.call13 rfl ?_; intro C hC hro
    repeat (first | refine yy ?_ | refine yx fun _ => ?_ | refine run_cond (t := true) rfl (fun _ => ?_) (fun h => by cases h) | refine run_cond (t := false) rfl (fun h => by cases h) (fun _ => ?_) | refine qc (hm _) ?_ | refine qc (hnum _) ?_)
    exact run_ret hC (rs := [.tmp 4, .tmp 5]) rfl (resT rfl (resT rfl resN)) (fun _ h => h.drop) ⟨rfl, rfl, rfl⟩
  · obtain ⟨k, rfl, hk⟩ := horg (by decide)
    obtain ⟨b, off, nm, rfl, hnm, hc⟩ := hat hk
    have hnz2 := hz nm (List.mem_of_getElem? hnm)
    have he : lineT xs ⟨8, (k : Int), au, n, gv.xs, tx, ye, st.xs.map Sr.sp⟩ = nm ++ vAnew := by
      rw [show lineT xs ⟨8, (k : Int), au, n, gv.xs, tx, ye, st.xs.map Sr.sp⟩ = nameT xs (k : Int) ++ vAnew from rfl, hnat hnm]
    rw [he]
    clear he
    have hv : vAnew.size = 12 := rfl
    have hc1 : nm.size + vAnew.size < 4611686018427387904 := by omega
    refine Tr.intro 143 Tryz.func13 rfl rfl Tryz.call13 rfl ?_; intro C hC hro
    repeat (first | refine yy ?_ | refine yx fun _ => ?_ | refine run_cond (t := true) rfl (fun _ => ?_) (fun h => by cases h) | refine run_cond (t := false) rfl (fun h => by cases h) (fun _ => ?_) | refine qc (hm _) ?_)
    exact run_ret hC (rs := [.tmp 4, .tmp 5]) rfl (resT rfl (resT rfl resN)) (fun _ h => h.drop) ⟨rfl, rfl, rfl⟩
  · obtain ⟨k, rfl, hk⟩ := horg (by decide)
    obtain ⟨b, off, nm, rfl, hnm, hc⟩ := hat hk
    have hnz2 := hz nm (List.mem_of_getElem? hnm)
    have htx := fun L => htx L (.inr rfl)
    generalize hT : txnT xs tx = T at *
    have he : lineT xs ⟨9, (k : Int), au, n, gv.xs, tx, ye, st.xs.map Sr.sp⟩ = (nm ++ vShows) ++ T := by
      rw [show lineT xs ⟨9, (k : Int), au, n, gv.xs, tx, ye, st.xs.map Sr.sp⟩ = nameT xs (k : Int) ++ (vShows ++ txnT xs tx) from rfl, hnat hnm, hT, app_assoc]
    rw [he]
    clear he
    have hv : vShows.size = 7 := rfl
    have hc1 : nm.size + vShows.size < 4611686018427387904 := by omega
    have hc2 : (nm ++ vShows).size + T.size < 4611686018427387904 := by rw [app_size]; omega
    refine Tr.intro 143 Tryz.func13 rfl rfl Tryz.call13 rfl ?_; intro C hC hro
    repeat (first | refine yy ?_ | refine yx fun _ => ?_ | refine run_cond (t := true) rfl (fun _ => ?_) (fun h => by cases h) | refine run_cond (t := false) rfl (fun h => by cases h) (fun _ => ?_) | refine qc (hm _) ?_ | refine qc (htx _) ?_)
    exact run_ret hC (rs := [.tmp 4, .tmp 5]) rfl (resT rfl (resT rfl resN)) (fun _ h => h.drop) ⟨rfl, rfl, rfl⟩
  · obtain ⟨k, rfl, hk⟩ := horg (by decide)
    obtain ⟨b, off, nm, rfl, hnm, hc⟩ := hat hk
    have hnz2 := hz nm (List.mem_of_getElem? hnm)
    generalize hT : stepsT (st.xs.map Sr.sp) = T at *
    have he : lineT xs ⟨10, (k : Int), au, n, gv.xs, tx, ye, st.xs.map Sr.sp⟩ = (nm ++ vJudges) ++ T := by
      rw [show lineT xs ⟨10, (k : Int), au, n, gv.xs, tx, ye, st.xs.map Sr.sp⟩ = nameT xs (k : Int) ++ (vJudges ++ stepsT (st.xs.map Sr.sp)) from rfl, hnat hnm, hT, app_assoc]
    rw [he]
    clear he
    have hv : vJudges.size = 8 := rfl
    have hc1 : nm.size + vJudges.size < 4611686018427387904 := by omega
    have hc2 : (nm ++ vJudges).size + T.size < 4611686018427387904 := by rw [app_size]; omega
    refine Tr.intro 143 Tryz.func13 rfl rfl Tryz.call13 rfl ?_; intro C hC hro
    repeat (first | refine yy ?_ | refine yx fun _ => ?_ | refine run_cond (t := true) rfl (fun _ => ?_) (fun h => by cases h) | refine run_cond (t := false) rfl (fun h => by cases h) (fun _ => ?_) | refine qc (hm _) ?_ | refine qc (hst _) ?_)
    exact run_ret hC (rs := [.tmp 4, .tmp 5]) rfl (resT rfl (resT rfl resN)) (fun _ h => h.drop) ⟨rfl, rfl, rfl⟩
end Go.Proofs.YtladcmfbkiogbaaGreatDoor
namespace Go.Proofs.YtladcmfbkiogbaaGreatDoor
open Go.Chi Go.Lib
set_option maxRecDepth 10000
set_option maxHeartbeats 16000000 in
theorem rnote_ok (M : Mem) (L : HL) (hG : G38 M) (S : SStr) (hS : StOk M S) (hz : ∀ x ∈ S.xs, x.size < 1000000) (e : Int) (t : Tx) (n : Int) : TrQ Tryz.prog 15 [S.v, .agg ⟨ntC e t n⟩] M L (.tuple ⟨[.string (noteA S.xs e t n).1, .int .i64 (noteA S.xs e t n).2]⟩) := by
  have hlen := hS.len
  have hroll := fun L => refRoll_ok M L S hS hz
  have hna1 : rollB S.xs = true ∧ badNt S.xs.length e t n = false → noteA S.xs e t n = (noteS S.xs e t n, 0) := fun h => by
    rw [noteA, if_pos h.1, if_neg (by rw [h.2]; decide)]
  have hna0 : ¬ (rollB S.xs = true ∧ badNt S.xs.length e t n = false) → noteA S.xs e t n = (⟨#[]⟩, 2) := fun h => by
    unfold noteA
    by_cases hr : rollB S.xs = true
    · rw [if_pos hr, if_pos (by
        cases hb : badNt S.xs.length e t n with
        | true => rfl
        | false => exact absurd ⟨hr, hb⟩ h)]
    · rw [if_neg hr]
  have hbd : badNt S.xs.length e t n = ((((decide (e < 0) || decide (e > 2147483647)) || decide (n < 0)) || decide (n > 2147483647)) || (!noTx t && (!mayTx t || decide (t.coord ≥ (S.len : Int))))) := by rw [badNt, hlen]
  have htxn := fun L (h1 : mayTx t = true) (h2 : t.coord < (S.xs.length : Int)) => rtxn_ok M L hG S hS hz t ⟨(txIn h1).1, h2⟩ (txIn h1).2.1 (txIn h1).2.2
  have hns : noteS S.xs e t n = ((if e = 0 then wOk else wErr ++ dgB e) ++ (if noTx t = true then ⟨#[]⟩ else sp1 ++ ((txnV S.xs t).getD ⟨#[]⟩))) ++ (if n = 0 then ⟨#[]⟩ else (wCom ++ dgB n) ++ wPosts) := rfl
  have htv := fun (h1 : mayTx t = true) (h2 : t.coord < (S.xs.length : Int)) => (show txnV S.xs t = some (txnT S.xs t) by rw [txn_some h1, if_pos h2])
  have htz := fun (h1 : mayTx t = true) (h2 : t.coord < (S.xs.length : Int)) => txnV_sz hz (txIn h1).2.1.2 (txIn h1).2.2.2 (htv h1 h2)
  generalize rollB S.xs = ρ at *
  generalize badNt S.xs.length e t n = bd at *
  generalize noteS S.xs e t n = NS at *
  generalize noteA S.xs e t n = NA at *
  refine Tr.intro 79 Tryz.func15 rfl rfl Tryz.call15 rfl ?_; intro C hC hro
  repeat (first | refine yy ?_ | refine yx fun _ => ?_ | refine qc (hroll _) ?_ | refine gc (refTx_ok _ _ t) ?_)
  rename_i b3
  refine run_cond (t := ((((((!ρ) || decide (e < 0)) || decide (e > 2147483647)) || decide (n < 0)) || decide (n > 2147483647)) || (!noTx t && (!mayTx t || decide (t.coord ≥ (S.len : Int)))))) rfl (fun h => ?_) (fun h => ?_)
  · have h0 := hna0 fun q => by
      rw [q.2] at hbd
      rw [q.1] at h
      simp only [Bool.not_true, Bool.false_or, ← hbd] at h
      cases h
    repeat (first | refine yy ?_ | refine yx fun _ => ?_)
    exact run_ret hC (rs := [.tmp 4, .tmp 5]) rfl (resT rfl (resT rfl resN)) (fun _ h => h.drop) ⟨by rw [h0]; rfl, rfl, rfl⟩
  have hg : ρ = true ∧ bd = false := by
    cases hρ : ρ with
    | false => rw [hρ] at h; simp at h
    | true =>
      rw [hρ] at h
      simp only [Bool.not_true, Bool.false_or, ← hbd] at h
      exact ⟨rfl, h⟩
  have hN := hna1 hg
  rw [hg.2] at hbd
  have hbd := hbd.symm
  simp only [Bool.or_eq_false_iff, decide_eq_false_iff_not] at hbd
  obtain ⟨⟨⟨⟨he0, he1⟩, hn0⟩, hn1⟩, htx⟩ := hbd
  rw [hN] at hC
  clear hna0 hna1 hroll h hg hN
  have hdn := dgB_sz (n := n) (by omega)
  have hde := dgB_sz (n := e) (by omega)
  have hie := fun L => rnum_ok M L hG e (by omega) (by omega)
  have hin := fun L => rnum_ok M L hG n (by omega) (by omega)
  have h6e : wErr.size = 6 := rfl
  obtain ⟨u, hu⟩ : ∃ u, (if e = 0 then wOk else wErr ++ dgB e) = u := ⟨_, rfl⟩
  have huz : u.size ≤ 25 := by
    rw [← hu]; split
    · decide
    · rw [app_size]; omega
  rw [hu] at hns
  repeat (first | refine yy ?_ | refine yx fun _ => ?_)
  refine run_condI (fun σ' M' L' => M = M' ∧ L' = (b3, Obj.cells ⟨ntC e t n⟩ 31 (0, 0)) :: L ∧ σ' = [(6, .string u), (3, pt b3), (0, S.v)]) (t := e != 0) rfl (fun h hk => ?_) (fun h hk => ?_) ?_
  · have he : e ≠ 0 := by simpa using h
    rw [if_neg he] at hu
    have hcc : wErr.size + (dgB e).size < 4611686018427387904 := by omega
    repeat (first | refine zc ?_ | refine vq ?_)
    refine qc (hie _) ?_
    iterate 3 refine yy ?_
    exact run_sub' (hk _ _ _ ⟨rfl, rfl, rfl⟩) ⟨by rw [← hu]; rfl, rfl, rfl, trivial⟩
  · have he : e = 0 := by simpa using h
    rw [if_pos he] at hu
    refine yy ?_
    exact run_sub' (hk _ _ _ ⟨rfl, rfl, rfl⟩) ⟨by rw [← hu]; rfl, rfl, rfl, trivial⟩
  rintro _ _ _ ⟨rfl, rfl, rfl⟩
  clear hu hie hde
  obtain ⟨w, hw⟩ : ∃ w, (if noTx t = true then ⟨#[]⟩ else sp1 ++ ((txnV S.xs t).getD ⟨#[]⟩)) = w := ⟨_, rfl⟩
  rw [hw] at hns
  repeat (first | refine yy ?_ | refine yx fun _ => ?_)
  refine run_condI (fun σ' M' L' => M = M' ∧ L' = (b3, Obj.cells ⟨ntC e t n⟩ 31 (0, 0)) :: L ∧ w.size ≤ 1000200 ∧ σ' = [(6, .string (u ++ w)), (3, pt b3)]) (t := !noTx t) rfl (fun h hk => ?_) (fun h hk => ?_) ?_
  · have hno : noTx t = false := by simpa using h
    have hmt : mayTx t = true ∧ t.coord < (S.xs.length : Int) := by
      rw [hno] at htx
      simp only [Bool.not_false, Bool.true_and, Bool.or_eq_false_iff, Bool.not_eq_false', decide_eq_false_iff_not] at htx
      exact ⟨htx.1, by omega⟩
    have hT := fun L => htxn L hmt.1 hmt.2
    have hTz := htz hmt.1 hmt.2
    rw [hno, if_neg (by decide), htv hmt.1 hmt.2] at hw
    have hw : sp1 ++ txnT S.xs t = w := hw
    generalize txnT S.xs t = T at *
    have h1s : sp1.size = 1 := rfl
    have hc1 : u.size + sp1.size < 4611686018427387904 := by omega
    have hc2 : (u ++ sp1).size + T.size < 4611686018427387904 := by rw [app_size]; omega
    repeat (first | refine zc ?_ | refine vq ?_)
    refine qc (hT _) ?_
    iterate 3 refine yy ?_
    exact run_sub' (hk _ _ _ ⟨rfl, rfl, by rw [← hw, app_size]; omega, rfl⟩) ⟨by rw [← hw, ← app_assoc]; rfl, rfl, trivial⟩
  · have hno : noTx t = true := by simpa using h
    rw [if_pos hno] at hw
    refine yy ?_
    exact run_sub' (hk _ _ _ ⟨rfl, rfl, by rw [← hw]; exact Nat.zero_le _, rfl⟩) ⟨by rw [← hw, app_nil]; rfl, rfl, trivial⟩
  rintro _ _ _ ⟨rfl, rfl, hwz, rfl⟩
  clear hw htv htz htxn htx
  generalize hv : u ++ w = v at *
  have hvz : v.size ≤ 1000300 := by rw [← hv, app_size]; omega
  have h2c : wCom.size = 2 := rfl
  have h6p : wPosts.size = 6 := rfl
  repeat (first | refine yy ?_ | refine yx fun _ => ?_)
  refine run_condI (fun σ' M' L' => M = M' ∧ L' = (b3, Obj.cells ⟨ntC e t n⟩ 31 (0, 0)) :: L ∧ σ' = [(6, .string NS)]) (t := n != 0) rfl (fun h hk => ?_) (fun h hk => ?_) ?_
  · have hn : n ≠ 0 := by simpa using h
    rw [if_neg hn] at hns
    have hc1 : v.size + wCom.size < 4611686018427387904 := by omega
    have hc2 : (v ++ wCom).size + (dgB n).size < 4611686018427387904 := by rw [app_size]; omega
    have hc3 : ((v ++ wCom) ++ dgB n).size + wPosts.size < 4611686018427387904 := by rw [app_size, app_size]; omega
    repeat (first | refine zc ?_ | refine vq ?_)
    refine qc (hin _) ?_
    iterate 4 refine yy ?_
    exact run_sub' (hk _ _ _ ⟨rfl, rfl, rfl⟩) ⟨by rw [hns, show v ++ ((wCom ++ dgB n) ++ wPosts) = ((v ++ wCom) ++ dgB n) ++ wPosts by simp only [app_assoc]]; rfl, trivial⟩
  · have hn : n = 0 := by simpa using h
    rw [if_pos hn, app_nil] at hns
    refine yy ?_
    exact run_sub' (hk _ _ _ ⟨rfl, rfl, rfl⟩) ⟨by rw [hns]; rfl, trivial⟩
  rintro _ _ _ ⟨rfl, rfl, rfl⟩
  repeat (first | refine yy ?_ | refine yx fun _ => ?_)
  exact run_ret hC (rs := [.tmp 4, .tmp 5]) rfl (resT rfl (resT rfl resN)) (fun _ h => h.drop) ⟨rfl, rfl, rfl⟩
end Go.Proofs.YtladcmfbkiogbaaGreatDoor
namespace Go.Proofs.YtladcmfbkiogbaaGreatDoor
open Go.Chi Go.Lib
set_option maxRecDepth 10000
theorem seqC5 {f : ByteArray → ByteArray} : ∀ {ps : List ByteArray} (first : Bool), (∀ p ∈ ps, (f p).size + 2 ≤ 5 * p.size) → (seqC sepB first (ps.map f)).size ≤ 5 * (cat ps).size
  | [], _, _ => Nat.zero_le _
  | p :: ps, first, h => by
    have h1 := h p List.mem_cons_self
    have ih := seqC5 (ps := ps) false fun q hq => h q (List.mem_cons_of_mem _ hq)
    have hsep : sepB.size = 2 := rfl
    have h2 : (if first = true then f p else sepB ++ f p).size ≤ (f p).size + 2 := by
      split
      · omega
      · rw [app_size]; omega
    rw [List.map_cons, seqC, app_size, cat, app_size]; omega
theorem line5 : ∀ (d : Nat), d ≤ 16 → ∀ (t : ByteArray), Tm d t → t.size < 4611686018427387904 → (lineB d t).size + 2 ≤ 5 * t.size
  | 0, _, _, h, _ => h.elim
  | d + 1, hd, t, ht, hz => by
    have hpos := ht.pos
    have h0 : (textN t).1.size + 1 ≤ t.size := by
      unfold textN
      split
      · have h1 := textR_sz (rest1 t) 1024
        have h2 : (rest1 t).size = t.size - 1 := rest1_size
        show (textR (rest1 t) 1024).1.size + 1 ≤ _
        omega
      · show 0 + 1 ≤ _; omega
    have h2 := datum_size (textN t).1
    obtain ⟨hh, ps, k1, rfl, k3⟩ := ht
    have hhp := k1.pos
    have e1 : (⟨#[36]⟩ : ByteArray).size = 1 := rfl
    have e2 : (⟨#[91]⟩ : ByteArray).size = 1 := rfl
    have e3 : (⟨#[93]⟩ : ByteArray).size = 1 := rfl
    have e4 : (⟨#[40]⟩ : ByteArray).size = 1 := rfl
    have e5 : (⟨#[41]⟩ : ByteArray).size = 1 := rfl
    have hs : (hh ++ cat ps).size = hh.size + (cat ps).size := app_size _ _
    have hsq := seqC5 (f := lineB d) (ps := ps) true fun p hp => line5 d (by omega) p (k3 p hp) (by have := cat_mem hp; omega)
    rw [lineB, parts_of (by omega) k1 k3 (by omega)]
    repeat' split
    · omega
    · rw [app_size]; omega
    · rw [app_size, app_size]; omega
    · rw [app_size, app_size, app_size, ByteArray.size_extract]; omega
theorem lineE5 {t : ByteArray} (ht : t.size < 1000000) : (lineE t).1.size ≤ 5 * t.size ∧ (lineE t).1.size ≤ 81920 := by
  unfold lineE
  by_cases h0 : mayB t = true
  · rw [if_pos h0]
    obtain ⟨hT, hz2⟩ := (mayB_iff (by omega)).1 h0
    have := line5 16 (Nat.le_refl _) t hT (by omega)
    generalize lineB 16 t = u at *
    exact ⟨by show u.size ≤ _; omega, by show u.size ≤ _; omega⟩
  · rw [if_neg h0]; exact ⟨Nat.zero_le _, Nat.zero_le _⟩
theorem stepT5 {x : Sp} (h : SpP x) : (stepT x).size ≤ 5300 := by
  have h1 := kW_sz x.do_
  have h2 := fsB_sz h (kO x.do_)
  have h4 : (kO x.do_).length ≤ 3 := by
    unfold kO
    repeat' split
    all_goals decide
  have h3 : (tailT x).size ≤ 5200 := by
    unfold tailT
    split
    · have htx := h.text
      have hdz : (dataE x.text).1.size ≤ 1034 := by
        have := textB_sz (t := x.text) (by omega)
        rw [dataE, if_neg (by omega)]
        show ((⟨#[100]⟩ : ByteArray) ++ textB x.text).size ≤ _
        rw [app_size, show (⟨#[100]⟩ : ByteArray).size = 1 from rfl]; omega
      have h5 := (lineE5 (t := (dataE x.text).1) (by omega)).1
      have h6 : sp1.size = 1 := rfl
      rw [app_size]; omega
    split
    · have := rwB_sz h.list
      have := h.len
      omega
    · exact Nat.zero_le _
  rw [stepT, app_size, app_size]; omega
theorem stepsT5 {l : List Sp} (h : ∀ x ∈ l, SpP x) (h64 : l.length ≤ 64) : (stepsT l).size ≤ 340000 := by
  unfold stepsT
  split
  · decide
  · have := seqC_sz (c := 5300) (l.map stepT) true fun t ht => by
      obtain ⟨x, hx, rfl⟩ := List.mem_map.1 ht
      exact stepT5 (h x hx)
    rw [List.length_map] at this; omega
theorem nameT_sz {names : List ByteArray} (hn : ∀ x ∈ names, x.size ≤ 256) (n : Int) : (nameT names n).size ≤ 256 := by
  unfold nameT
  cases hg : names[n.toNat]? with
  | none => exact Nat.zero_le _
  | some y => exact hn y (List.mem_of_getElem? hg)
theorem givesT5 {names : List ByteArray} (hn : ∀ x ∈ names, x.size ≤ 256) : ∀ {l : List Mb} (f : Bool), (∀ m ∈ l, m.digest.size < 1000000) → (givesT names f l).size ≤ 82200 * l.length
  | [], _, _ => Nat.zero_le _
  | m :: l, f, h => by
    have h1 := nameT_sz hn m.org
    have h2 := (lineE5 (h m List.mem_cons_self)).2
    have h3 := givesT5 hn (l := l) false fun y hy => h y (List.mem_cons_of_mem _ hy)
    have h4 : sp1.size = 1 := rfl
    have h5 : (if f = true then colB else semB).size = 2 := by split <;> rfl
    rw [givesT, giveT, app_size, app_size, app_size, app_size, List.length_cons]; omega
theorem txnT5 {names : List ByteArray} (hn : ∀ x ∈ names, x.size ≤ 256) {t : Tx} (h : mayTx t = true) : (txnT names t).size ≤ 300 := by
  have h0 := nameT_sz hn t.coord
  have h1 := dgB_sz (txIn h).2.1.2
  have h2 := dgB_sz (txIn h).2.2.2
  have h3 : slB.size = 1 := rfl
  simp only [txnT, app_size]; omega
theorem lineT5 {names : List ByteArray} (hn : ∀ x ∈ names, x.size ≤ 256) {a : Aa} (ha : AcP a) (hd : ∀ m ∈ a.gives, m.digest.size < 1000000) : (lineT names a).size < 1000000 := by
  have h0 := nameT_sz hn a.org
  have hdn := dgB_sz (n := a.n) (by have := ha.fit.n.2; omega)
  have e1 : wPost.size = 5 := rfl
  have e2 : wComes.size = 6 := rfl
  have e3 : vBegins.size = 12 := rfl
  have e4 : vYes.size = 13 := rfl
  have e5 : vNo.size = 12 := rfl
  have e6 : vTicks.size = 6 := rfl
  have e7 : vAnew.size = 12 := rfl
  have e8 : vStops.size = 14 := rfl
  have e9 : vCrash.size = 19 := rfl
  have ea : vGets.size = 6 := rfl
  have eb : vJudges.size = 8 := rfl
  have ec : vShows.size = 7 := rfl
  cases ha with
  | begin_ o au g q1 q2 q3 q4 =>
    have h1 := nameT_sz hn au
    have h2 := givesT5 hn (l := g) true hd
    show (nameT names o ++ ((vBegins ++ nameT names au) ++ givesT names true g)).size < _
    simp only at h0
    rw [app_size, app_size, app_size]; omega
  | submit o t y q1 q2 =>
    have h1 := txnT5 hn q2
    have h2 : (if y = true then vYes else vNo).size ≤ 13 := by split <;> omega
    show (nameT names o ++ ((if y = true then vYes else vNo) ++ txnT names t)).size < _
    simp only at h0
    rw [app_size, app_size]; omega
  | tick o q1 =>
    show (nameT names o ++ vTicks).size < _
    simp only at h0
    rw [app_size]; omega
  | deliver n q1 =>
    show ((wPost ++ dgB n) ++ wComes).size < _
    simp only at hdn
    rw [app_size, app_size]; omega
  | inject o l q1 q2 q3 =>
    have h1 := stepsT5 q3 q2
    show (nameT names o ++ (vGets ++ stepsT l)).size < _
    simp only at h0
    rw [app_size, app_size]; omega
  | arm o n q1 q2 =>
    show (nameT names o ++ (vStops ++ dgB n)).size < _
    simp only at h0 hdn
    rw [app_size, app_size]; omega
  | crash o n q1 q2 =>
    show (nameT names o ++ (vCrash ++ dgB n)).size < _
    simp only at h0 hdn
    rw [app_size, app_size]; omega
  | restart o q1 =>
    show (nameT names o ++ vAnew).size < _
    simp only at h0
    rw [app_size]; omega
  | exprt o t q1 q2 =>
    have h1 := txnT5 hn q2
    show (nameT names o ++ (vShows ++ txnT names t)).size < _
    simp only at h0
    rw [app_size, app_size]; omega
  | present o l q1 q2 q3 =>
    have h1 := stepsT5 q3 q2
    show (nameT names o ++ (vJudges ++ stepsT l)).size < _
    simp only at h0
    rw [app_size, app_size]; omega
theorem lineA5 {names : List ByteArray} (hn : ∀ x ∈ names, x.size ≤ 256) {a : Aa} (hd : ∀ m ∈ a.gives, m.digest.size < 1000000) : (lineA names a).1.size < 1000000 := by
  obtain ⟨h1, h2⟩ := line_doc names a
  by_cases h : rollB names = true ∧ AcP a ∧ MayL names.length a
  · rw [h1 h]; exact lineT5 hn h.2.1 hd
  · rw [h2 h]; show 0 < _; decide
end Go.Proofs.YtladcmfbkiogbaaGreatDoor
namespace Go.Proofs.YtladcmfbkiogbaaGreatDoor
open Go.Chi Go.Lib
set_option maxRecDepth 10000
theorem stOneT (r : ByteArray) : ∀ u ∈ stC r, u.oneCell' = true := by intro u hu; simp [stC] at hu; subst hu; rfl
theorem osCap {e size n : Nat} {v : Value} {xs : List Value} {N : HL} (h : OS e size v n xs N) : ∃ a c, v = .slice a n c ∧ n ≤ c := by
  rcases h with ⟨rfl, rfl, _, _⟩ | ⟨b, cap, cs, rfl, _, hle, _⟩
  · exact ⟨none, 0, rfl, Nat.le_refl _⟩
  · exact ⟨_, cap, rfl, hle⟩
theorem rown_ok (M : Mem) (L : HL) (S : SStr) (hS : StOk M S) : Tr Tryz.prog 12 [S.v] M L (fun v M' L' => M.le M' ∧ L' = L ∧ ∃ T : SStr, v = T.v ∧ StOk M' T ∧ T.xs = S.xs ∧ T.len ≤ T.cap) := by
  have hl := hS.len
  have h6 := hS.2
  have h0 := hS.1
  obtain ⟨sa, sn, sc, xs⟩ := S
  simp only [SStr.v] at *
  refine Tr.intro 5 Tryz.func12 rfl rfl Tryz.call12 rfl ?_; intro C hC hro
  repeat (first | refine zc ?_ | refine vq ?_)
  refine runL_op (st_appendG (xs := []) (n := 0) (m := sn) (news := (xs.map stC).flatten) tok rfl rfl rfl rfl rfl rfl rfl rfl (N := []) (List.Perm.refl _) (OS.nil _ _) (SrcG.ofSlM h0) (rFlatOne stOneT _) (by omega) (by omega)) rfl rfl rfl ?_
  rintro v7 _ _ ⟨N1, rfl, rfl, hO1⟩
  rw [Nat.zero_add, List.nil_append] at hO1
  obtain ⟨a7, c7, rfl, hle⟩ := osCap hO1
  repeat (first | refine yy ?_ | refine yx fun _ => ?_)
  refine run_retE hC (rs := [.tmp 2]) rfl (resT rfl resN) fun w hw => ?_
  obtain ⟨M2, a2, c2, q1, q2, q3, q4⟩ := hw.freezeOS hO1 (by rw [List.length_map]; exact hl) (fun c hc => by obtain ⟨x, _, rfl⟩ := List.mem_map.1 hc; rfl)
  injection q3 with e1 e2 e3
  subst e1 e3
  exact ⟨M2, L, q2, q1, rfl, ⟨a7, sn, c7, xs⟩, rfl, ⟨q4, h6⟩, rfl, hle⟩
set_option maxHeartbeats 32000000 in
theorem textTells_ok (M : Mem) (L : HL) (hG : G38 M) (A : SStr) (hA : A.Ok M) (hca : A.len ≤ A.cap) (x : Ax) (hx : AxIn M x) (e : Int) (t : Tx) (n : Int) : Tr Tryz.prog 3 [A.v, .agg ⟨axC x⟩, .agg ⟨ntC e t n⟩] M L (fun v M' L' => M.le M' ∧ L' = L ∧ v = .bool true) := by
  have hlo1 := fun L => long_ok M L A hA ⟨#[]⟩
  refine Tr.intro 97 Tryz.func3 rfl rfl Tryz.call3 rfl ?_; intro C hC hro
  refine run_seq ?_
  refine run_region ?_
  refine yx fun b4 => ?_
  refine yx fun b5 => ?_
  cases hq1 : longA A.xs ⟨#[]⟩ with
  | true =>
    rw [hq1] at hlo1
    repeat (first | refine zc ?_ | refine vq ?_)
    refine qc (hlo1 _) ?_
    repeat (first | refine yk ?_ | refine yx fun _ => ?_)
    refine run_cond (t := true) rfl (fun _ => ?_) (fun h => by cases h)
    repeat (first | refine zc ?_)
    refine oc (alive_ok _ _ hG) ?_
    rintro _ M2 _ ⟨hM2, rfl, rfl⟩
    repeat (first | refine yy ?_ | refine yx fun _ => ?_)
    exact run_ret hC (rs := [.tmp 6]) rfl (resT rfl resN) (fun _ h => h.drop.drop) ⟨hM2, rfl, rfl⟩
  | false =>
  rw [hq1] at hlo1
  obtain ⟨la1, la2, la3⟩ := longA_no hq1
  have hA : StOk M A := ⟨hA, by have := hA.1; simp at this; omega⟩
  have hza : ∀ x ∈ A.xs, x.size < 1000000 := fun x hx => by have := la3 x hx; omega
  repeat (first | refine zc ?_ | refine vq ?_)
  refine qc (hlo1 _) ?_
  iterate 2 refine yk ?_
  refine yx fun b16 => ?_
  refine runL_frzL [_] fun M1 hM1 hb1 => ?_
  have hsa : SaIn M1 ⟨some ⟨b16, 0, none⟩, 1, 1, [x]⟩ := by
    refine ⟨SlM.ofBlk (size := 10) (ls := [axC x]) (hb1 _ List.mem_cons_self) rfl (fun l hl => ?_), fun z hz => ?_⟩
    · obtain rfl := List.mem_singleton.1 hl; rfl
    · obtain rfl := List.mem_singleton.1 hz; exact hx.le hM1
  refine ok (slong_ok _ _ _ hsa) ?_
  rintro _ _ _ ⟨rfl, rfl, bv, rfl, hlim⟩
  cases bv with
  | true =>
    repeat (first | refine yk ?_ | refine yx fun _ => ?_)
    refine run_cond (t := true) rfl (fun _ => ?_) (fun h => by cases h)
    repeat (first | refine zc ?_)
    refine oc (alive_ok _ _ (hG.le hM1)) ?_
    rintro _ M2 _ ⟨hM2, rfl, rfl⟩
    repeat (first | refine yy ?_ | refine yx fun _ => ?_)
    exact run_ret hC (rs := [.tmp 6]) rfl (resT rfl resN) (fun _ h => h.drop.drop) ⟨Mem.le_trans hM1 hM2, rfl, rfl⟩
  | false =>
  have hli := hlim rfl
  have hso := hsa.ok hli
  have hax : AxOk M1 x := hso.each x List.mem_cons_self
  have hdx : ∀ m ∈ x.aa.gives, m.digest.size < 1000000 := fun m hm => by have := (hli.2 x List.mem_cons_self).pay m hm; omega
  repeat (first | refine yk ?_ | refine yx fun _ => ?_)
  refine run_cond (t := false) rfl (fun h => by cases h) (fun _ => ?_)
  have hl5 := lineA5 la3 hdx
  have hbk := fun h => line_back_ (names := A.xs) (a := x.aa) h hdx
  have hl1 : ∀ (M' : Mem) L (S : SStr), M1.le M' → StOk M' S → S.xs = A.xs → S.len ≤ S.cap → TrQ Tryz.prog 11 [S.v, .agg ⟨axC x⟩] M' L (.tuple ⟨[.string (lineA A.xs x.aa).1, .int .i64 (lineA A.xs x.aa).2]⟩) := fun M' L S h1 h2 h3 h4 => by
    have := tline_ok M' L (hG.le (Mem.le_trans hM1 h1)) S h2 h4 (by rw [h3]; exact hza) x (hax.le h1)
    rwa [h3] at this
  have hl2 : ∀ (M' : Mem) L, M1.le M' → TrQ Tryz.prog 13 [A.v, .agg ⟨axC x⟩] M' L (.tuple ⟨[.string (lineA A.xs x.aa).1, .int .i64 (lineA A.xs x.aa).2]⟩) := fun M' L h1 => rline_ok M' L (hG.le (Mem.le_trans hM1 h1)) A (hA.le (Mem.le_trans hM1 h1)) hza x (hax.le h1)
  have hn1 : ∀ (M' : Mem) L (S : SStr), M1.le M' → StOk M' S → S.xs = A.xs → S.len ≤ S.cap → TrQ Tryz.prog 14 [S.v, .agg ⟨ntC e t n⟩] M' L (.tuple ⟨[.string (noteA A.xs e t n).1, .int .i64 (noteA A.xs e t n).2]⟩) := fun M' L S h1 h2 h3 h4 => by
    have := tnote_ok M' L (hG.le (Mem.le_trans hM1 h1)) S h2 h4 (by rw [h3]; exact hza) e t n
    rwa [h3] at this
  have hn2 : ∀ (M' : Mem) L, M1.le M' → TrQ Tryz.prog 15 [A.v, .agg ⟨ntC e t n⟩] M' L (.tuple ⟨[.string (noteA A.xs e t n).1, .int .i64 (noteA A.xs e t n).2]⟩) := fun M' L h1 => rnote_ok M' L (hG.le (Mem.le_trans hM1 h1)) A (hA.le (Mem.le_trans hM1 h1)) hza e t n
  have hr1 : ∀ (M' : Mem) L (S : SStr), M1.le M' → StOk M' S → S.xs = A.xs → S.len ≤ S.cap → TrQ Tryz.prog 16 [S.v] M' L (.int .i64 (if rollB A.xs = true then 0 else 2)) := fun M' L S h1 h2 h3 h4 => by
    have := roll_ok M' L S h2 h4 (by rw [h3]; exact hza)
    rwa [h3] at this
  have hr2 : ∀ (M' : Mem) L, M1.le M' → TrQ Tryz.prog 17 [A.v] M' L (.bool (rollB A.xs)) := fun M' L h1 => refRoll_ok M' L A (hA.le (Mem.le_trans hM1 h1)) hza
  have hrr : (((if rollB A.xs = true then (0 : Int) else 2) == 0) != rollB A.xs) = false := by cases rollB A.xs <;> rfl
  generalize lineA A.xs x.aa = p1 at *
  generalize noteA A.xs e t n = p2 at *
  generalize rollB A.xs = rb at *
  generalize (if rb = true then (0 : Int) else 2) = rc at *
  have hown := fun (M' : Mem) L (h : M1.le M') => rown_ok M' L A (hA.le (Mem.le_trans hM1 h))
  repeat (first | refine zc ?_)
  refine dd ?_
  refine qqx 0 ?_
  refine qqx 2 ?_
  refine ooc 1 (hown _ _ (Mem.le_refl _)) ?_
  rintro _ M2 _ ⟨hM2, rfl, S2, rfl, hS2, hx2, hc2⟩
  refine ppx ?_
  refine qqc 3 (hl1 _ _ S2 hM2 hS2 hx2 hc2) ?_
  refine qqx 4 ?_
  refine qqx 5 ?_
  refine qqx 6 ?_
  refine pr_one 7 (by decide +kernel) (eff1 7 rfl (qt_pev tok rfl) (by decide +kernel) rfl rfl rfl rfl ?_)
  rintro _ _ _ ⟨rfl, rfl, rfl⟩
  refine ppx ?_
  refine pr_one 8 (by decide +kernel) (eff1 8 rfl (qt_pev tok rfl) (by decide +kernel) rfl rfl rfl rfl ?_)
  rintro _ _ _ ⟨rfl, rfl, rfl⟩
  refine ppx ?_
  refine pr_end (by decide +kernel) (by decide +kernel) ?_
  repeat (first | refine zc ?_ | refine vq ?_ | refine qc (hl2 _ _ hM2) ?_)
  refine dd ?_
  refine qqx 0 ?_
  refine qqx 2 ?_
  refine ooc 1 (hown _ _ hM2) ?_
  rintro _ M3 _ ⟨hM3, rfl, S3, rfl, hS3, hx3, hc3⟩
  have hM13 := Mem.le_trans hM2 hM3
  refine ppx ?_
  refine qqc 3 (hn1 _ _ S3 hM13 hS3 hx3 hc3) ?_
  refine qqx 4 ?_
  refine qqx 5 ?_
  refine qqx 6 ?_
  refine pr_one 7 (by decide +kernel) (eff1 7 rfl (qt_pev tok rfl) (by decide +kernel) rfl rfl rfl rfl ?_)
  rintro _ _ _ ⟨rfl, rfl, rfl⟩
  refine ppx ?_
  refine pr_one 8 (by decide +kernel) (eff1 8 rfl (qt_pev tok rfl) (by decide +kernel) rfl rfl rfl rfl ?_)
  rintro _ _ _ ⟨rfl, rfl, rfl⟩
  refine ppx ?_
  refine pr_end (by decide +kernel) (by decide +kernel) ?_
  repeat (first | refine zc ?_ | refine vq ?_ | refine qc (hn2 _ _ hM13) ?_)
  have hne : ∀ s : ByteArray, (!(s.toList == s.toList)) = false := fun s => by rw [bytes_beq]; simp
  refine runL_as 54 (.bool false) rfl (congrArg Value.bool (hne p1.1)) ?_
  iterate 5 (first | refine yk ?_ | fail)
  refine runL_as 59 (.bool false) rfl (congrArg Value.bool (show (p1.2 != p1.2) = false by simp)) ?_
  iterate 5 (first | refine yk ?_ | fail)
  refine runL_as 64 (.bool false) rfl (congrArg Value.bool (hne p2.1)) ?_
  iterate 5 (first | refine yk ?_ | fail)
  refine runL_as 69 (.bool false) rfl (congrArg Value.bool (show (p2.2 != p2.2) = false by simp)) ?_
  refine yk ?_
  refine ok (hown _ _ hM13) ?_
  rintro _ M4 _ ⟨hM4, rfl, S4, rfl, hS4, hx4, hc4⟩
  have hM14 := Mem.le_trans hM13 hM4
  refine kc (hr1 _ _ S4 hM14 hS4 hx4 hc4) ?_
  repeat (first | refine yk ?_ | refine yx fun _ => ?_)
  refine kc (hr2 _ _ hM14) ?_
  repeat (first | refine yk ?_ | refine yx fun _ => ?_)
  refine run_cond (t := false) (by show some (Value.bool ((rc == 0) != rb)) = _; rw [hrr]) (fun h => by cases h) (fun _ => ?_)
  have hM04 := Mem.le_trans hM1 hM14
  repeat (first | refine yy ?_ | refine yx fun _ => ?_)
  refine run_cond (t := p1.2 != 0) rfl (fun h => ?_) (fun h => ?_)
  · repeat (first | refine zc ?_)
    refine oc (alive_ok _ _ (hG.le hM04)) ?_
    rintro _ M5 _ ⟨hM5, rfl, rfl⟩
    repeat (first | refine yy ?_ | refine yx fun _ => ?_)
    exact run_ret hC (rs := [.tmp 6]) rfl (resT rfl resN) (fun _ h => h.drop.drop) ⟨Mem.le_trans hM04 hM5, rfl, rfl⟩
  have hp0 : p1.2 = 0 := by simpa using h
  have hpb := hbk hp0
  have htp := fun L => tparse_ok M4 L (hG.le hM04) A (hA.le hM04) hca hza p1.1 hl5
  rw [hpb] at htp
  repeat (first | refine zc ?_ | refine vq ?_)
  refine oc (htp _) ?_
  rintro _ M5 _ ⟨hM5, rfl, ay, hay, hya, rfl⟩
  have hM05 := Mem.le_trans hM04 hM5
  have hax5 := hax.le (Mem.le_trans hM14 hM5)
  repeat (first | refine yy ?_ | refine yx fun _ => ?_)
  refine runL_as 89 (.bool true) rfl rfl ?_
  refine kc (refSameAct_ok _ _ x ay hax5 hay true ⟨fun _ => hya.symm, fun _ => rfl⟩) ?_
  repeat (first | refine yk ?_ | refine yx fun _ => ?_)
  refine ok (alive_ok _ _ (hG.le hM05)) ?_
  rintro _ M6 _ ⟨hM6, rfl, rfl⟩
  repeat (first | refine yk ?_ | refine yx fun _ => ?_)
  exact run_ret hC (rs := [.tmp 6]) rfl (resT rfl resN) (fun _ h => h.drop.drop.drop) ⟨Mem.le_trans hM05 hM6, rfl, rfl⟩
end Go.Proofs.YtladcmfbkiogbaaGreatDoor
namespace Go.Proofs.YtladcmfbkiogbaaGreatDoor
open Go.Chi Go.Lib
theorem rd_nt {H : Type} {enc : TypeId × Value → H} {W : World} {cs : List Value} (h : RD enc Tryz.prog W 31 cs) : ∃ p : Int × Tx × Int, cs = ntC p.1 p.2.1 p.2.2 ∧ True := by
  obtain ⟨_, _, rfl, h0, _, _, rfl, h1, _, _, rfl, h2, rfl⟩ := h.struct (und_ok tok (t := 31) rfl) (by kernel_rfl)
  obtain ⟨e, rfl, _⟩ := h0.int (und_ok tok (t := 29) rfl)
  obtain ⟨t, rfl⟩ := rd_tx h1
  obtain ⟨n, rfl, _⟩ := h2.int uInt
  exact ⟨(e, t, n), rfl, trivial⟩
end Go.Proofs.YtladcmfbkiogbaaGreatDoor
