import Derived.Test.YtladcmfbkiogbaaGreatDoorBUA
import Derived.Below
import Derived.Lib.ConvBytes
import Derived.Laws.RangeString
import Derived.Shelf.Small.Utf8
import Derived.Shelf.Small.Strs
import Derived.Shelf.Small.Wraps
import Derived.Shelf.Utf8.RuneCount
import Derived.Shelf.Strconv.Atoi
import Derived.Shelf.Strconv.Itoa0
import Derived.Shelf.Strconv.Itoa1
import Derived.Shelf.LaysM
import Derived.Shelf.Strconv.Itoa2
import Derived.Shelf.Strconv.Itoa3
import Derived.Shelf.Strconv.AtoiErrFast
import Derived.Shelf.Strconv.ParseIntEmpty
import Derived.Shelf.Strconv.AtoiFail
import Derived.Shelf.Strconv.Clone
import Derived.Shelf.Strconv.SyntaxError
import Derived.Shelf.LaysC
import Derived.Shelf.Strconv.ToError
import Derived.Shelf.Strconv.Lower
import Derived.Shelf.Strconv.ParseUint10
import Derived.Shelf.Strconv.ParseUint10Empty
import Derived.Shelf.Strconv.ParseUint10Any
import Derived.Shelf.Strconv.ParseInt10
import Derived.Shelf.Strconv.AtoiLong
import Derived.Shelf.Strconv.AtoiInnerAll
import Derived.Shelf.Strconv.RangeError
import Derived.Shelf.Strconv.ToErrorRange
import Derived.Shelf.Strconv.AtoiAll
import Derived.Shelf.Strconv.ErrVarAll
import Derived.Shelf.Strconv.ParseUintEmpty
import Derived.Shelf.Strconv.ParseUint10b64
import Derived.Shelf.Strconv.ParseUint10b32
import Derived.Shelf.Strconv.ParseUint10b16
import Derived.Shelf.Strconv.ParseUint10b8
import Derived.Shelf.Strconv.ParseUint10At
import Derived.Shelf.Strconv.ParseInt10At64
import Derived.Shelf.Strconv.ParseInt10At32
import Derived.Shelf.Strconv.ParseInt10At16
import Derived.Shelf.Strconv.ParseInt10At8
import Derived.Shelf.Strconv.ParseInt10All
import Derived.Shelf.Strconv.ParseIntPublic10
import Derived.Shelf.Strconv.ErrVarParseInt
import Derived.Shelf.Strings.Search1
import Derived.Shelf.Strings.Search2
import Derived.Shelf.Strings.Cut
import Derived.Shelf.Strings.Shaped
import Derived.Shelf.Strings.Prefix
import Derived.Shelf.Strings.Runes
import Derived.Shelf.Strings.RuneCount
import Derived.Shelf.Strings.IndexAny
import Derived.Shelf.Strings.AsciiSet
import Derived.Shelf.Strings.IndexAnyAll
import Derived.Shelf.Slices.Turned
import Derived.Test.YtladcmfbkiogbaaGreatDoorProg
import Derived.Lib.ItoaMem
import Derived.Lib.AtoiErrMem
import Derived.Lib.QuietBelow
import Derived.Lib.ParseIntBTie
import Derived.Laws.MakeOwn
import Derived.Laws.OwnMore
import Derived.Lib.UnsafeStr
import Derived.Lib.Builder
import Derived.KernelRfl
set_option linter.all false
namespace Go.Proofs.YtladcmfbkiogbaaGreatDoor
open Go.Chi
section
variable {C : Cx} {n : Nat} {k : List Item} {ds : List Deferred} {σ : Env} {δ : Den} {M : Mem} {L L' : HL} {ops : Array Oper} {X : List Nat} {d i : Nat} {op : Op} {ty : TypeId} {pos : String} {aft : Array Edge} {l : List Oper} {v u : Value} {j s : Nat} {want c : Bool} {p : Path} {t : TypeId} {x y : Operand} {b off sz : Nat} {cs cs' : List Value} {et : TypeId} {f : FuncId} {args : Array Operand} {tys : Array TypeId} {vs : List Value} {K : Value → Mem → HL → Prop}
theorem vq (h : RunL Tryz.prog C n ops l k ds ((d, v) :: σ) δ M L) (hst : Qt Tryz.prog C.b.roundOf ⟨some d, op, ty, pos, aft, none⟩ σ δ [] M L v := by first | refine qt_pev tok rfl | refine ql tok rfl | refine qt_indexN tok rfl rfl rfl rfl (fun hy => by first | assumption | omega | (have h0 := hy.1; simp at h0; omega)) | refine qt_index tok rfl rfl rfl rfl (fun _ => by decide) | refine qt_ldM tok rfl (by first | assumption | exact Cells.le (by assumption) (by assumption)) rfl | refine qt_ldM0 tok rfl (by first | assumption | exact Cells.le (by assumption) (by assumption)) rfl | refine qt_strIndex tok rfl rfl rfl (fun _ => by assumption) | refine qt_strIndex (n := 0) tok rfl rfl rfl (fun _ => by assumption) | refine qt_strLo tok rfl rfl rfl (fun hy => by first | assumption | omega | (have h0 := hy.1; simp at h0; omega)) | refine qt_strHi tok rfl rfl rfl (fun hy => by first | assumption | omega | (have h0 := hy.1; simp at h0; omega)) | refine qt_strMid tok rfl rfl rfl rfl (fun hy => by first | assumption | omega | (have h0 := hy.1; simp at h0; omega)) | refine qt_concat rfl rfl (by first | assumption | omega | (simp only [app_size] at *; omega)) | refine qt_shr rfl rfl (fun _ => by decide) | refine qt_makeIfaceC tok rfl rfl rfl | refine qt_assertC tok rfl rfl rfl | refine qt_assertCk tok rfl rfl rfl) (hd : Nat.blt d n = true := by exact rfl) (hn : lkd δ d = none := by exact rfl) (hu : unNamed δ d = true := by exact rfl) : RunL Tryz.prog C n ops (⟨some d, op, ty, pos, aft, none⟩ :: l) k ds σ δ M L := runL_q hst hd hn hu h
theorem vg (h : RunL Tryz.prog C n ops l k ds σ ((d, (s, want) :: p, v) :: δ) M L) (hj : slotOf ops j = some s := by exact rfl) (hg : lkg σ δ s = some (p, .bool c) := by exact rfl) (hst : Qt Tryz.prog C.b.roundOf ⟨some d, op, ty, pos, aft, some (j, want)⟩ σ δ ((s, want) :: p) M L v := by first | refine qt_pev tok rfl | refine ql tok rfl | refine qt_indexN tok rfl rfl rfl rfl (fun hy => by first | assumption | omega | (have h0 := hy.1; simp at h0; omega)) | refine qt_index tok rfl rfl rfl rfl (fun _ => by decide) | refine qt_ldM tok rfl (by first | assumption | exact Cells.le (by assumption) (by assumption)) rfl | refine qt_ldM0 tok rfl (by first | assumption | exact Cells.le (by assumption) (by assumption)) rfl | refine qt_strIndex tok rfl rfl rfl (fun _ => by assumption) | refine qt_strIndex (n := 0) tok rfl rfl rfl (fun _ => by assumption) | refine qt_strLo tok rfl rfl rfl (fun hy => by first | assumption | omega | (have h0 := hy.1; simp at h0; omega)) | refine qt_strHi tok rfl rfl rfl (fun hy => by first | assumption | omega | (have h0 := hy.1; simp at h0; omega)) | refine qt_strMid tok rfl rfl rfl rfl (fun hy => by first | assumption | omega | (have h0 := hy.1; simp at h0; omega)) | refine qt_concat rfl rfl (by first | assumption | omega | (simp only [app_size] at *; omega)) | refine qt_shr rfl rfl (fun _ => by decide) | refine qt_makeIfaceC tok rfl rfl rfl | refine qt_assertC tok rfl rfl rfl | refine qt_assertCk tok rfl rfl rfl) (hd : Nat.blt d n = true := by exact rfl) (hn : lkd δ d = none := by exact rfl) (hsd : lks σ d = none := by exact rfl) (hu : unNamed δ d = true := by exact rfl) (hp : unP ((s, want) :: p) d = true := by exact rfl) : RunL Tryz.prog C n ops (⟨some d, op, ty, pos, aft, some (j, want)⟩ :: l) k ds σ δ M L := runL_g hj hg hst hd hn hsd hu hp h
theorem vk (h : RunL Tryz.prog C n ops l k ds ((d, v) :: σ) δ M L) (hj : slotOf ops j = some s := by exact rfl) (hg : knows σ s want = true := by exact rfl) (hst : Qt Tryz.prog C.b.roundOf ⟨some d, op, ty, pos, aft, some (j, want)⟩ σ δ [] M L v := by first | refine qt_pev tok rfl | refine ql tok rfl | refine qt_indexN tok rfl rfl rfl rfl (fun hy => by first | assumption | omega | (have h0 := hy.1; simp at h0; omega)) | refine qt_index tok rfl rfl rfl rfl (fun _ => by decide) | refine qt_ldM tok rfl (by first | assumption | exact Cells.le (by assumption) (by assumption)) rfl | refine qt_ldM0 tok rfl (by first | assumption | exact Cells.le (by assumption) (by assumption)) rfl | refine qt_strIndex tok rfl rfl rfl (fun _ => by assumption) | refine qt_strIndex (n := 0) tok rfl rfl rfl (fun _ => by assumption) | refine qt_strLo tok rfl rfl rfl (fun hy => by first | assumption | omega | (have h0 := hy.1; simp at h0; omega)) | refine qt_strHi tok rfl rfl rfl (fun hy => by first | assumption | omega | (have h0 := hy.1; simp at h0; omega)) | refine qt_strMid tok rfl rfl rfl rfl (fun hy => by first | assumption | omega | (have h0 := hy.1; simp at h0; omega)) | refine qt_concat rfl rfl (by first | assumption | omega | (simp only [app_size] at *; omega)) | refine qt_shr rfl rfl (fun _ => by decide) | refine qt_makeIfaceC tok rfl rfl rfl | refine qt_assertC tok rfl rfl rfl | refine qt_assertCk tok rfl rfl rfl) (hd : Nat.blt d n = true := by exact rfl) (hn : lkd δ d = none := by exact rfl) (hu : unNamed δ d = true := by exact rfl) : RunL Tryz.prog C n ops (⟨some d, op, ty, pos, aft, some (j, want)⟩ :: l) k ds σ δ M L := runL_gK hj hg hst hd hn hu h
theorem qc (ht : TrQ Tryz.prog f vs M L v) (h : RunL Tryz.prog C n ops l k ds ((d, v) :: σ) δ M L) (ha : evs σ δ [] args.toList = some vs := by exact rfl) (hd : Nat.blt d n = true := by exact rfl) (hn : lkd δ d = none := by exact rfl) (hu : unNamed δ d = true := by exact rfl) : RunL Tryz.prog C n ops (⟨some d, .call ⟨.value (.func f), args, tys⟩, ty, pos, aft, none⟩ :: l) k ds σ δ M L := runL_q (qt_callF ha fun _ => ht) hd hn hu h
theorem gc (ht : TrQ Tryz.prog f vs M L v) (h : RunL Tryz.prog C n ops l k ds σ ((d, (s, want) :: p, v) :: δ) M L) (hj : slotOf ops j = some s := by exact rfl) (hg : lkg σ δ s = some (p, .bool c) := by exact rfl) (ha : evs σ δ ((s, want) :: p) args.toList = some vs := by exact rfl) (hd : Nat.blt d n = true := by exact rfl) (hn : lkd δ d = none := by exact rfl) (hsd : lks σ d = none := by exact rfl) (hu : unNamed δ d = true := by exact rfl) (hp : unP ((s, want) :: p) d = true := by exact rfl) : RunL Tryz.prog C n ops (⟨some d, .call ⟨.value (.func f), args, tys⟩, ty, pos, aft, some (j, want)⟩ :: l) k ds σ δ M L := runL_g hj hg (qt_callF ha fun _ => ht) hd hn hsd hu hp h
theorem kc (ht : TrQ Tryz.prog f vs M L v) (h : RunL Tryz.prog C n ops l k ds ((d, v) :: σ) δ M L) (hj : slotOf ops j = some s := by exact rfl) (hg : knows σ s want = true := by exact rfl) (ha : evs σ δ [] args.toList = some vs := by exact rfl) (hd : Nat.blt d n = true := by exact rfl) (hn : lkd δ d = none := by exact rfl) (hu : unNamed δ d = true := by exact rfl) : RunL Tryz.prog C n ops (⟨some d, .call ⟨.value (.func f), args, tys⟩, ty, pos, aft, some (j, want)⟩ :: l) k ds σ δ M L := runL_gK hj hg (qt_callF ha fun _ => ht) hd hn hu h
theorem oc (ht : Tr Tryz.prog f vs M L K) (h : ∀ v M' L', K v M' L' → RunL Tryz.prog C n ops l k ds ((d, v) :: σ) δ M' L') (ha : evs σ δ [] args.toList = some vs := by exact rfl) (hd : Nat.blt d n = true := by exact rfl) (hn : lkd δ d = none := by exact rfl) (hu : unNamed δ d = true := by exact rfl) : RunL Tryz.prog C n ops (⟨some d, .call ⟨.value (.func f), args, tys⟩, ty, pos, aft, none⟩ :: l) k ds σ δ M L := runL_op (st_callF ha fun _ => ht) hd hn hu h
theorem ok (ht : Tr Tryz.prog f vs M L K) (h : ∀ v M' L', K v M' L' → RunL Tryz.prog C n ops l k ds ((d, v) :: σ) δ M' L') (hj : slotOf ops j = some s := by exact rfl) (hg : knows σ s want = true := by exact rfl) (ha : evs σ δ [] args.toList = some vs := by exact rfl) (hd : Nat.blt d n = true := by exact rfl) (hn : lkd δ d = none := by exact rfl) (hu : unNamed δ d = true := by exact rfl) : RunL Tryz.prog C n ops (⟨some d, .call ⟨.value (.func f), args, tys⟩, ty, pos, aft, some (j, want)⟩ :: l) k ds σ δ M L := runL_gT hj hg (st_callF ha fun _ => ht) hd hn hu h
theorem ec {K : Ending → Mem → HL → Prop} (ht : TrE Tryz.prog f vs M L K) (h : ∀ v M' L', K (.returned v) M' L' → RunL Tryz.prog C n ops l k ds ((d, v) :: σ) δ M' L') (hp : ∀ ch M' L', K (.panicked ch) M' L' → RunX Tryz.prog C n (.panicking ch) ds σ M' L') (ha : evs σ δ [] args.toList = some vs := by exact rfl) (hd : Nat.blt d n = true := by exact rfl) (hn : lkd δ d = none := by exact rfl) (hu : unNamed δ d = true := by exact rfl) : RunL Tryz.prog C n ops (⟨some d, .call ⟨.value (.func f), args, tys⟩, ty, pos, aft, none⟩ :: l) k ds σ δ M L := runL_callE ha ht hd hn hu h hp
theorem eq_ (h : PR Tryz.prog C n ops k ds (dn (i + 1)) X ((d, v) :: σ) δ M L) (ho : ops[i]? = some ⟨some d, op, ty, pos, aft, none⟩ := by exact rfl) (hst : Qt Tryz.prog C.b.roundOf ⟨some d, op, ty, pos, aft, none⟩ σ δ [] M L v := by first | refine qt_pev tok rfl | refine ql tok rfl | refine qt_indexN tok rfl rfl rfl rfl (fun hy => by first | assumption | omega | (have h0 := hy.1; simp at h0; omega)) | refine qt_index tok rfl rfl rfl rfl (fun _ => by decide) | refine qt_ldM tok rfl (by first | assumption | exact Cells.le (by assumption) (by assumption)) rfl | refine qt_ldM0 tok rfl (by first | assumption | exact Cells.le (by assumption) (by assumption)) rfl | refine qt_strIndex tok rfl rfl rfl (fun _ => by assumption) | refine qt_strIndex (n := 0) tok rfl rfl rfl (fun _ => by assumption) | refine qt_strLo tok rfl rfl rfl (fun hy => by first | assumption | omega | (have h0 := hy.1; simp at h0; omega)) | refine qt_strHi tok rfl rfl rfl (fun hy => by first | assumption | omega | (have h0 := hy.1; simp at h0; omega)) | refine qt_strMid tok rfl rfl rfl rfl (fun hy => by first | assumption | omega | (have h0 := hy.1; simp at h0; omega)) | refine qt_concat rfl rfl (by first | assumption | omega | (simp only [app_size] at *; omega)) | refine qt_shr rfl rfl (fun _ => by decide) | refine qt_makeIfaceC tok rfl rfl rfl | refine qt_assertC tok rfl rfl rfl | refine qt_assertCk tok rfl rfl rfl) (hchk : chkQ ops (dn i) i = true := by decide +kernel) (hd : Nat.blt d n = true := by exact rfl) (hn : lkd δ d = none := by exact rfl) (hu : unNamed δ d = true := by exact rfl) : PR Tryz.prog C n ops k ds (dn i) X σ δ M L := prn_q ho hst hchk hd hn hu h
theorem eg (h : PR Tryz.prog C n ops k ds (dn (i + 1)) X σ ((d, (s, want) :: p, v) :: δ) M L) (ho : ops[i]? = some ⟨some d, op, ty, pos, aft, some (j, want)⟩ := by exact rfl) (hj : slotOf ops j = some s := by exact rfl) (hg : lkg σ δ s = some (p, .bool c) := by exact rfl) (hst : Qt Tryz.prog C.b.roundOf ⟨some d, op, ty, pos, aft, some (j, want)⟩ σ δ ((s, want) :: p) M L v := by first | refine qt_pev tok rfl | refine ql tok rfl | refine qt_indexN tok rfl rfl rfl rfl (fun hy => by first | assumption | omega | (have h0 := hy.1; simp at h0; omega)) | refine qt_index tok rfl rfl rfl rfl (fun _ => by decide) | refine qt_ldM tok rfl (by first | assumption | exact Cells.le (by assumption) (by assumption)) rfl | refine qt_ldM0 tok rfl (by first | assumption | exact Cells.le (by assumption) (by assumption)) rfl | refine qt_strIndex tok rfl rfl rfl (fun _ => by assumption) | refine qt_strIndex (n := 0) tok rfl rfl rfl (fun _ => by assumption) | refine qt_strLo tok rfl rfl rfl (fun hy => by first | assumption | omega | (have h0 := hy.1; simp at h0; omega)) | refine qt_strHi tok rfl rfl rfl (fun hy => by first | assumption | omega | (have h0 := hy.1; simp at h0; omega)) | refine qt_strMid tok rfl rfl rfl rfl (fun hy => by first | assumption | omega | (have h0 := hy.1; simp at h0; omega)) | refine qt_concat rfl rfl (by first | assumption | omega | (simp only [app_size] at *; omega)) | refine qt_shr rfl rfl (fun _ => by decide) | refine qt_makeIfaceC tok rfl rfl rfl | refine qt_assertC tok rfl rfl rfl | refine qt_assertCk tok rfl rfl rfl) (hchk : chkQ ops (dn i) i = true := by decide +kernel) (hd : Nat.blt d n = true := by exact rfl) (hn : lkd δ d = none := by exact rfl) (hsd : lks σ d = none := by exact rfl) (hu : unNamed δ d = true := by exact rfl) (hp : unP ((s, want) :: p) d = true := by exact rfl) : PR Tryz.prog C n ops k ds (dn i) X σ δ M L := prn_g ho hj hg hst hchk hd hn hsd hu hp h
theorem pc (ht : TrQ Tryz.prog f vs M L v) (h : PR Tryz.prog C n ops k ds (dn (i + 1)) X ((d, v) :: σ) δ M L) (ho : ops[i]? = some ⟨some d, .call ⟨.value (.func f), args, tys⟩, ty, pos, aft, none⟩ := by exact rfl) (ha : evs σ δ [] args.toList = some vs := by exact rfl) (hchk : chkQ ops (dn i) i = true := by decide +kernel) (hd : Nat.blt d n = true := by exact rfl) (hn : lkd δ d = none := by exact rfl) (hu : unNamed δ d = true := by exact rfl) : PR Tryz.prog C n ops k ds (dn i) X σ δ M L := prn_q ho (qt_callF ha fun _ => ht) hchk hd hn hu h
theorem pec (ht : Tr Tryz.prog f vs M L K) (h : ∀ v M' L', K v M' L' → PR Tryz.prog C n ops k ds (dn (i + 1)) (i :: X) ((d, v) :: σ) δ M' L') (ho : ops[i]? = some ⟨some d, .call ⟨.value (.func f), args, tys⟩, ty, pos, aft, none⟩ := by exact rfl) (ha : evs σ δ [] args.toList = some vs := by exact rfl) (hchk : (chkE ops (dn i) i && acyc ops && (open_ ops (dn i) X i).isEmpty) = true := by decide +kernel) (hd : Nat.blt d n = true := by exact rfl) (hn : lkd δ d = none := by exact rfl) (hu : unNamed δ d = true := by exact rfl) : PR Tryz.prog C n ops k ds (dn i) X σ δ M L := prn_e1 ho (st_callF ha fun _ => ht) hchk hd hn hu h
theorem poc (ht : Tr Tryz.prog f vs M L K) (h : ∀ v M' L', K v M' L' → PendAll Tryz.prog C.b.roundOf ops σ δ M' L' (open_ ops (dn i) X i) ∧ PR Tryz.prog C n ops k ds (dn (i + 1)) (i :: X) ((d, v) :: σ) δ M' L') (ho : ops[i]? = some ⟨some d, .call ⟨.value (.func f), args, tys⟩, ty, pos, aft, none⟩ := by exact rfl) (ha : evs σ δ [] args.toList = some vs := by exact rfl) (hchk : (acyc ops && chkC ops (dn i) [i] && chkE1 ops (dn i) i) = true := by decide +kernel) (hd : Nat.blt d n = true := by exact rfl) (hn : lkd δ d = none := by exact rfl) (hu : unNamed δ d = true := by exact rfl) : PR Tryz.prog C n ops k ds (dn i) X σ δ M L := prn_o1 ho (st_callF ha fun _ => ht) hchk hd hn hu h
end
theorem yy {A B : Prop} (h : A) (hs : A → B := by
  first
  | with_reducible first | exact zS | exact zR | exact zN | exact zK | exact zB | exact zI
  | exact zE rfl
  | exact fun h => vq h | exact fun h => vg h | exact fun h => ws h) : B := hs h
theorem yk {A B : Prop} (h : A) (hs : A → B := by
  first
  | with_reducible first | exact zS | exact zR | exact zN | exact zK | exact zB | exact zI
  | exact zE rfl
  | exact fun h => vq h | exact fun h => vk h | exact fun h => wgF h | exact fun h => vg h | exact fun h => ws h) : B := hs h
theorem yd {A B : Prop} (h : A) (hs : A → B := by
  first
  | exact fun h => eq_ h | exact fun h => eg h
  | exact fun h => prn_e0 rfl (sst tok rfl rfl rfl rfl rfl) (by decide +kernel) (by rintro _ _ _ ⟨rfl, rfl, rfl⟩; exact h)
  | exact fun h => prn_o0 rfl (sst tok rfl rfl rfl rfl rfl) (by decide +kernel) (by rintro _ _ _ ⟨rfl, rfl, rfl⟩; exact ⟨by (repeat (first | exact trivial | refine And.intro (pend_q rfl rfl rfl (by first | refine qt_pev tok rfl | refine ql tok rfl | refine qt_indexN tok rfl rfl rfl rfl (fun hy => by first | assumption | omega | (have h0 := hy.1; simp at h0; omega)) | refine qt_index tok rfl rfl rfl rfl (fun _ => by decide) | refine qt_ldM tok rfl (by first | assumption | exact Cells.le (by assumption) (by assumption)) rfl | refine qt_ldM0 tok rfl (by first | assumption | exact Cells.le (by assumption) (by assumption)) rfl | refine qt_strIndex tok rfl rfl rfl (fun _ => by assumption) | refine qt_strIndex (n := 0) tok rfl rfl rfl (fun _ => by assumption) | refine qt_strLo tok rfl rfl rfl (fun hy => by first | assumption | omega | (have h0 := hy.1; simp at h0; omega)) | refine qt_strHi tok rfl rfl rfl (fun hy => by first | assumption | omega | (have h0 := hy.1; simp at h0; omega)) | refine qt_strMid tok rfl rfl rfl rfl (fun hy => by first | assumption | omega | (have h0 := hy.1; simp at h0; omega)) | refine qt_concat rfl rfl (by first | assumption | omega | (simp only [app_size] at *; omega)) | refine qt_shr rfl rfl (fun _ => by decide) | refine qt_makeIfaceC tok rfl rfl rfl | refine qt_assertC tok rfl rfl rfl | refine qt_assertCk tok rfl rfl rfl)) ?_)), h⟩)
  | exact fun h => pe rfl (qt_pev tok rfl) (by rintro _ _ _ ⟨rfl, rfl, rfl⟩; exact h)) : B := hs h
theorem yx {A : Nat → Prop} {B : Prop} (h : ∀ b, A b) (hs : (∀ b, A b) → B := by
  first
  | exact fun h => wb h | exact fun h => wa h | exact fun h => wl h
  | exact fun h => pe rfl (st_box rfl) (by rintro _ _ _ ⟨b, rfl, rfl, rfl⟩; exact h b)
  | exact fun h => pe rfl (st_alloc tok rfl) (by rintro _ _ _ ⟨b, rfl, rfl, rfl⟩; exact h b)
  | exact fun h => pe rfl (st_buildSlice tok rfl rfl rfl rfl rfl rfl rfl) (by rintro _ _ _ ⟨b, rfl, rfl, rfl⟩; exact h b)
  | exact fun h => po rfl (st_box rfl) (by rintro _ _ _ ⟨b, rfl, rfl, rfl⟩; exact ⟨by (repeat (first | exact trivial | refine And.intro (pend_q rfl rfl rfl (by first | refine qt_pev tok rfl | refine ql tok rfl | refine qt_indexN tok rfl rfl rfl rfl (fun hy => by first | assumption | omega | (have h0 := hy.1; simp at h0; omega)) | refine qt_index tok rfl rfl rfl rfl (fun _ => by decide) | refine qt_ldM tok rfl (by first | assumption | exact Cells.le (by assumption) (by assumption)) rfl | refine qt_ldM0 tok rfl (by first | assumption | exact Cells.le (by assumption) (by assumption)) rfl | refine qt_strIndex tok rfl rfl rfl (fun _ => by assumption) | refine qt_strIndex (n := 0) tok rfl rfl rfl (fun _ => by assumption) | refine qt_strLo tok rfl rfl rfl (fun hy => by first | assumption | omega | (have h0 := hy.1; simp at h0; omega)) | refine qt_strHi tok rfl rfl rfl (fun hy => by first | assumption | omega | (have h0 := hy.1; simp at h0; omega)) | refine qt_strMid tok rfl rfl rfl rfl (fun hy => by first | assumption | omega | (have h0 := hy.1; simp at h0; omega)) | refine qt_concat rfl rfl (by first | assumption | omega | (simp only [app_size] at *; omega)) | refine qt_shr rfl rfl (fun _ => by decide) | refine qt_makeIfaceC tok rfl rfl rfl | refine qt_assertC tok rfl rfl rfl | refine qt_assertCk tok rfl rfl rfl)) ?_)), h b⟩)
  | exact fun h => po rfl (st_alloc tok rfl) (by rintro _ _ _ ⟨b, rfl, rfl, rfl⟩; exact ⟨by (repeat (first | exact trivial | refine And.intro (pend_q rfl rfl rfl (by first | refine qt_pev tok rfl | refine ql tok rfl | refine qt_indexN tok rfl rfl rfl rfl (fun hy => by first | assumption | omega | (have h0 := hy.1; simp at h0; omega)) | refine qt_index tok rfl rfl rfl rfl (fun _ => by decide) | refine qt_ldM tok rfl (by first | assumption | exact Cells.le (by assumption) (by assumption)) rfl | refine qt_ldM0 tok rfl (by first | assumption | exact Cells.le (by assumption) (by assumption)) rfl | refine qt_strIndex tok rfl rfl rfl (fun _ => by assumption) | refine qt_strIndex (n := 0) tok rfl rfl rfl (fun _ => by assumption) | refine qt_strLo tok rfl rfl rfl (fun hy => by first | assumption | omega | (have h0 := hy.1; simp at h0; omega)) | refine qt_strHi tok rfl rfl rfl (fun hy => by first | assumption | omega | (have h0 := hy.1; simp at h0; omega)) | refine qt_strMid tok rfl rfl rfl rfl (fun hy => by first | assumption | omega | (have h0 := hy.1; simp at h0; omega)) | refine qt_concat rfl rfl (by first | assumption | omega | (simp only [app_size] at *; omega)) | refine qt_shr rfl rfl (fun _ => by decide) | refine qt_makeIfaceC tok rfl rfl rfl | refine qt_assertC tok rfl rfl rfl | refine qt_assertCk tok rfl rfl rfl)) ?_)), h b⟩)
  | exact fun h => po rfl (st_buildSlice tok rfl rfl rfl rfl rfl rfl rfl) (by rintro _ _ _ ⟨b, rfl, rfl, rfl⟩; exact ⟨by (repeat (first | exact trivial | refine And.intro (pend_q rfl rfl rfl (by first | refine qt_pev tok rfl | refine ql tok rfl | refine qt_indexN tok rfl rfl rfl rfl (fun hy => by first | assumption | omega | (have h0 := hy.1; simp at h0; omega)) | refine qt_index tok rfl rfl rfl rfl (fun _ => by decide) | refine qt_ldM tok rfl (by first | assumption | exact Cells.le (by assumption) (by assumption)) rfl | refine qt_ldM0 tok rfl (by first | assumption | exact Cells.le (by assumption) (by assumption)) rfl | refine qt_strIndex tok rfl rfl rfl (fun _ => by assumption) | refine qt_strIndex (n := 0) tok rfl rfl rfl (fun _ => by assumption) | refine qt_strLo tok rfl rfl rfl (fun hy => by first | assumption | omega | (have h0 := hy.1; simp at h0; omega)) | refine qt_strHi tok rfl rfl rfl (fun hy => by first | assumption | omega | (have h0 := hy.1; simp at h0; omega)) | refine qt_strMid tok rfl rfl rfl rfl (fun hy => by first | assumption | omega | (have h0 := hy.1; simp at h0; omega)) | refine qt_concat rfl rfl (by first | assumption | omega | (simp only [app_size] at *; omega)) | refine qt_shr rfl rfl (fun _ => by decide) | refine qt_makeIfaceC tok rfl rfl rfl | refine qt_assertC tok rfl rfl rfl | refine qt_assertCk tok rfl rfl rfl)) ?_)), h b⟩)
  | exact fun h => runL_gT rfl rfl (st_buildSlice tok rfl rfl rfl rfl rfl rfl rfl) rfl rfl rfl (by rintro _ _ _ ⟨b, rfl, rfl, rfl⟩; exact h b)
  | exact fun h => runL_gT rfl rfl (st_box rfl) rfl rfl rfl (by rintro _ _ _ ⟨b, rfl, rfl, rfl⟩; exact h b)
  | exact fun h => runL_gT rfl rfl (st_alloc tok rfl) rfl rfl rfl (by rintro _ _ _ ⟨b, rfl, rfl, rfl⟩; exact h b)) : B := hs h
end Go.Proofs.YtladcmfbkiogbaaGreatDoor
namespace Go.Proofs.YtladcmfbkiogbaaGreatDoor
open Go.Chi
set_option maxRecDepth 10000
def wrongV (e : Int) : Value := .iface 208 (.agg ⟨[.int .i64 e]⟩)
def pan (e : Int) : List PanicEntry := [{ v := wrongV e, recovered := false }]
def mustK (e : Int) (M : Mem) (L : HL) (en : Ending) (M' : Mem) (L' : HL) : Prop := M = M' ∧ L = L' ∧ if e = 0 then en = .returned (.tuple ⟨[]⟩) else en = .panicked (pan e)
theorem must_ok (M : Mem) (L : HL) (e : Int) : TrE Tryz.prog 141 [.int .i64 e] M L (mustK e M L) := by
  refine TrE.intro 7 Tryz.func141 rfl rfl Tryz.call141 rfl ?_
  intro C hC hro
  repeat (first | refine zz ?_ | refine zx fun _ => ?_)
  refine run_cond rfl (fun h => ?_) (fun h => ?_)
  · have h0 : e ≠ 0 := by simpa using h
    repeat (first | refine zz ?_ | refine zx fun _ => ?_ | refine runL_q (qt_makeIface tok rfl rfl) rfl rfl rfl ?_)
    refine runL_panic hro rfl ?_
    exact runX_pan hC (fun _ h => h) ⟨rfl, rfl, by rw [if_neg h0]; rfl⟩
  · have h0 : e = 0 := by simpa using h
    repeat (first | refine zz ?_ | refine zx fun _ => ?_)
    refine run_endX hro ?_
    exact runX_ret hC (rs := []) rfl (vs := []) trivial (fun _ h => h) ⟨rfl, rfl, by rw [if_pos h0]; rfl⟩
theorem caught_ok (M : Mem) (L : HL) (e : Int) : TrQ Tryz.prog 138 [wrongV e] M L (.int .i64 e) := by
  refine Tr.intro 15 Tryz.func138 rfl rfl Tryz.call138 rfl ?_; intro C hC hro
  repeat (first | refine zz ?_ | refine zx fun _ => ?_ | refine runL_q (qt_assertIs tok rfl rfl) rfl rfl rfl ?_)
  refine run_cond rfl (fun h => ?_) (fun h => ?_)
  · simp at h
  · repeat (first | refine zz ?_ | refine zx fun _ => ?_)
    exact run_ret hC (rs := [.tmp 2]) rfl (resT rfl resN) (fun _ h => h.drop) ⟨rfl, rfl, rfl⟩
theorem tell_ok (M : Mem) (L : HL) (a b c : Int) : TrQ Tryz.prog 140 [.int .i64 a, .int .i64 b, .int .i64 c] M L (.tuple ⟨[]⟩) := by
  refine Tr.intro 6 Tryz.func140 rfl rfl Tryz.call140 rfl ?_
  intro C hC hro
  repeat (first | refine zz ?_ | refine zx fun _ => ?_)
  exact run_end hC (rs := []) rfl (vs := []) trivial (fun _ h => h) ⟨rfl, rfl, rfl⟩
end Go.Proofs.YtladcmfbkiogbaaGreatDoor
namespace Go.Proofs.YtladcmfbkiogbaaGreatDoor
open Go.Chi
set_option maxRecDepth 10000
theorem _root_.Go.Chi.runX_sub {P : Program} {C : Cx} {n : Nat} {u : FrameMode} {ds : List Deferred} {σ σ' : Env} {M : Mem} {L : HL} (h : RunX P C n u ds σ' M L) (hs : subE σ σ') : RunX P C n u ds σ M L :=
  fun a w k h1 h2 h3 h4 => h a w k h1 h2 ⟨fun t v e => h3.1 t v (subE_sound hs t v e), h3.2⟩ h4
theorem uAny : Tryz.prog.underlying 20 = some (.interface #[]) := by kernel_rfl
def fv (f : Nat) : Value := .func (.func f) ⟨[]⟩ ⟨[]⟩
def walkK (r : Except Int Nat) (M : Mem) (L : HL) (en : Ending) (M' : Mem) (L' : HL) : Prop := M = M' ∧ L = L' ∧ match r with | .ok n => en = .returned (.int .i64 (n : Int)) | .error e => en = .panicked (pan e)
def readR (r : Except Int Nat) : Int × Int := match r with | .ok n => if 16384 < n then (0, 5) else ((n : Int), 0) | .error e => (0, e)
set_option maxRecDepth 10000 in
set_option maxHeartbeats 4000000 in
theorem read_ok (M : Mem) (L : HL) (s : ByteArray) (r : Except Int Nat) (hw : ∀ L, TrE Tryz.prog 139 [.string s, .int .i64 0, .int .i64 1, fv 140] M L (walkK r M L)) : TrQ Tryz.prog 110 [.string s] M L (.tuple ⟨[.int .i64 (readR r).1, .int .i64 (readR r).2]⟩) := by
  refine TrE.tr (K := fun en M' L' => en = .returned (.tuple ⟨[.int .i64 (readR r).1, .int .i64 (readR r).2]⟩) ∧ M' = M ∧ L' = L) ?_ (fun e M' L' ⟨h1, h2, h3⟩ => ⟨_, h1, rfl, h2, h3⟩)
  refine TrE.intro 11 Tryz.func110 rfl rfl Tryz.call110 rfl ?_
  intro C hC hro
  repeat (first | refine zz ?_ | refine zx fun _ => ?_)
  rename_i b2 b3
  have hthrow : ∀ (e x : Int) (y : Int), readR r = (0, e) → RunX Tryz.prog C 11 (.panicking (pan e)) [⟨.fn (.func 137) ⟨[.pointer (some ⟨b2, 0, none⟩), .pointer (some ⟨b3, 0, none⟩)]⟩, #[]⟩] [(2, .pointer (some ⟨b2, 0, none⟩)), (3, .pointer (some ⟨b3, 0, none⟩))] M ((b3, .cells ⟨[.int .i64 y]⟩ 29 (0, 0)) :: (b2, .cells ⟨[.int .i64 x]⟩ 3 (0, 0)) :: L) := by
    intro e x y hr
    refine runX_defer (args := [.pointer (some ⟨b2, 0, none⟩), .pointer (some ⟨b3, 0, none⟩)]) 8 (by simp) Tryz.func137 rfl rfl Tryz.call137 rfl rfl ?_
    intro a0 k0 q1 q2 q3
    refine run_seq ?_
    refine run_region ?_
    refine runL_recover rfl rfl rfl ?_
    repeat (first | refine zz ?_ | refine zx fun _ => ?_)
    refine runL_q (qt_neNil (v := .agg ⟨[.int .i64 e]⟩) uAny rfl) rfl rfl rfl ?_
    repeat (first | refine zz ?_ | refine zx fun _ => ?_)
    refine run_cond rfl (fun _ => ?_) (fun h => ?_)
    rotate_left
    · cases h
    repeat (first | refine zz ?_ | refine zx fun _ => ?_ | refine runL_q (qt_callF rfl (fun _ => caught_ok _ _ e)) rfl rfl rfl ?_)
    refine run_endX rfl ?_
    refine runX_dret Tryz.func137 rfl q1 q2 q3 ?_
    show RunX _ _ _ .returning _ _ _ _
    refine runX_ret hC (rs := [.cell 2 3, .cell 3 29]) rfl (rl tok rfl (rl tok rfl resN)) (fun _ h => h.drop.drop) ⟨?_, rfl, rfl⟩
    rw [hr]; rfl
  refine runL_defer hro rfl rfl ?_
  repeat (first | refine zz ?_ | refine zx fun _ => ?_)
  refine runL_callE rfl (hw _) rfl rfl rfl ?_ ?_
  · rintro v _ _ ⟨rfl, rfl, hv⟩
    cases r with
    | error e => simp at hv
    | ok m =>
      simp only [Ending.returned.injEq] at hv
      subst hv
      repeat (first | refine zz ?_ | refine zx fun _ => ?_)
      refine run_cond rfl (fun h => ?_) (fun h => ?_)
      · have hm : 16384 < m := by simp at h; omega
        repeat (first | refine zz ?_ | refine zx fun _ => ?_)
        refine runL_callE rfl (must_ok _ _ 5) rfl rfl rfl ?_ ?_
        · rintro v _ _ ⟨_, _, hv⟩
          simp at hv
        · rintro ch _ _ ⟨rfl, rfl, hv⟩
          simp only [show ¬ (5 : Int) = 0 by decide, if_false, Ending.panicked.injEq] at hv
          subst hv
          exact runX_sub (hthrow 5 (m : Int) 0 (by simp only [readR, if_pos hm])) ⟨rfl, rfl, trivial⟩
      · have hm : ¬ 16384 < m := by simp at h; omega
        repeat (first | refine zz ?_ | refine zx fun _ => ?_)
        refine run_retX hro ?_
        refine runX_sub (σ' := [(2, .pointer (some ⟨b2, 0, none⟩)), (3, .pointer (some ⟨b3, 0, none⟩))]) ?_ ⟨rfl, rfl, trivial⟩
        refine runX_defer (args := [.pointer (some ⟨b2, 0, none⟩), .pointer (some ⟨b3, 0, none⟩)]) 8 (by simp) Tryz.func137 rfl rfl Tryz.call137 rfl rfl ?_
        intro a0 k0 q1 q2 q3
        refine run_seq ?_
        refine run_region ?_
        refine runL_recover0 rfl rfl rfl ?_
        repeat (first | refine zz ?_ | refine zx fun _ => ?_ | refine runL_q (qt_neNil0 uAny rfl) rfl rfl rfl ?_)
        refine run_cond rfl (fun h => ?_) (fun _ => ?_)
        · cases h
        repeat (first | refine zz ?_ | refine zx fun _ => ?_)
        refine run_endX rfl ?_
        refine runX_dret Tryz.func137 rfl q1 q2 q3 ?_
        show RunX _ _ _ .returning _ _ _ _
        refine runX_ret hC (rs := [.cell 2 3, .cell 3 29]) rfl (rl tok rfl (rl tok rfl resN)) (fun _ h => h.drop.drop) ⟨?_, rfl, rfl⟩
        simp only [readR, if_neg hm]
        rfl
  · rintro ch _ _ ⟨rfl, rfl, hv⟩
    cases r with
    | ok m => simp at hv
    | error e =>
      simp only [Ending.panicked.injEq] at hv
      subst hv
      exact runX_sub (hthrow e 0 0 rfl) ⟨rfl, rfl, trivial⟩
end Go.Proofs.YtladcmfbkiogbaaGreatDoor
namespace Go.Proofs.YtladcmfbkiogbaaGreatDoor
open Go.Chi
set_option maxRecDepth 10000
def byte (s : ByteArray) (i : Nat) : Int := (((s[i]?).getD 0).toNat : Int)
def numV (s : ByteArray) : Nat → Int
  | 0 => 0
  | i + 1 => ior .u64 (ishl .u64 (numV s i) 8) (IntKind.u64.wrap (byte s i))
theorem byte_at {s : ByteArray} {i : Nat} (h : i < s.size) : ∃ b : UInt8, s[i]? = some b ∧ byte s i = (b.toNat : Int) := by
  have hx : s[i]? = some s[i] := by simp [h]
  exact ⟨_, hx, by rw [byte, hx]; rfl⟩
theorem empty_beq (s : ByteArray) : (s.toList == (⟨#[]⟩ : ByteArray).toList) = decide (s.size = 0) := by
  rw [bytes_beq, Bool.eq_iff_iff, decide_eq_true_eq, decide_eq_true_eq]
  constructor
  · rintro rfl; rfl
  · intro h0
    cases s with | mk d => simp [ByteArray.size] at h0; subst h0; rfl
theorem u64_byte (b : UInt8) : IntKind.u64.wrap (b.toNat : Int) = (b.toNat : Int) := by
  have := b.toNat_lt
  simp only [IntKind.wrap, IntKind.signed, IntKind.bits]
  simp
  omega
def rest1 (s : ByteArray) : ByteArray := s.extract 1 s.size
def numR (s : ByteArray) : Int × Int × Int :=
  if s.size = 0 then (0, 0, 6) else
  if byte s 0 ≤ 247 then (byte s 0, 1, 0) else
  if ((rest1 s).size : Int) < byte s 0 - 247 then (0, 0, 6) else
  if byte (rest1 s) 0 = 0 ∨ numV (rest1 s) (byte s 0 - 247).toNat ≤ 247 then (0, 0, 7) else (numV (rest1 s) (byte s 0 - 247).toNat, byte s 0 - 247 + 1, 0)
set_option maxHeartbeats 4000000 in
theorem readNum_ok (M : Mem) (L : HL) (s : ByteArray) : TrQ Tryz.prog 212 [.string s] M L (.tuple ⟨[.int .u64 (numR s).1, .int .i64 (numR s).2.1, .int .i64 (numR s).2.2]⟩) := by
  refine Tr.intro 46 Tryz.func212 rfl rfl Tryz.call212 rfl ?_; intro C hC hro
  repeat (first | refine zz ?_ | refine zx fun _ => ?_)
  refine run_cond rfl (fun h => ?_) (fun h => ?_)
  · repeat (first | refine zz ?_ | refine zx fun _ => ?_)
    exact run_ret hC (rs := [.tmp 2, .tmp 3, .tmp 4]) rfl (resT rfl (resT rfl (resT rfl resN))) (fun _ h => h) ⟨by rw [empty_beq, decide_eq_true_eq] at h; rw [numR, if_pos h]; rfl, rfl, rfl⟩
  rw [empty_beq, decide_eq_false_iff_not] at h
  have hs : 0 < s.size := by omega
  obtain ⟨b0, hb0, hb0'⟩ := byte_at hs
  repeat (first | refine zz ?_ | refine zx fun _ => ?_ | refine runL_q (qt_strIndex (n := 0) tok rfl rfl rfl (fun _ => hb0)) rfl rfl rfl ?_)
  refine run_cond rfl (fun h1 => ?_) (fun h1 => ?_)
  · have h2 : byte s 0 ≤ 247 := by rw [hb0']; simpa using h1
    repeat (first | refine zz ?_ | refine zx fun _ => ?_ | refine runL_q (qt_strIndex (n := 0) tok rfl rfl rfl (fun _ => hb0)) rfl rfl rfl ?_)
    refine run_ret hC (rs := [.tmp 2, .tmp 3, .tmp 4]) rfl (resT rfl (resT rfl (resT rfl resN))) (fun _ h => h) ⟨?_, rfl, rfl⟩
    rw [numR, if_neg h, if_pos h2, hb0', u64_byte]
    rfl
  have h2 : ¬ byte s 0 ≤ 247 := by rw [hb0']; simpa using h1
  obtain ⟨k, hk⟩ : ∃ k : Nat, k = b0.toNat - 247 := ⟨_, rfl⟩
  have hb0n : 247 < b0.toNat := by rw [hb0'] at h2; omega
  have hlt := b0.toNat_lt
  have hkv : IntKind.i64.wrap (IntKind.i64.wrap (b0.toNat : Int) - 247) = (k : Int) := by
    rw [wrap64_nat (by omega), show (b0.toNat : Int) - 247 = (k : Int) by omega, wrap64_nat (by omega)]
  repeat (first | refine zz ?_ | refine zx fun _ => ?_ | refine runL_q (qt_strIndex (n := 0) tok rfl rfl rfl (fun _ => hb0)) rfl rfl rfl ?_ | refine runL_q (qt_strLo (n := 1) tok rfl rfl rfl (fun _ => hs)) rfl rfl rfl ?_)
  have hkb : byte s 0 - 247 = (k : Int) := by rw [hb0']; omega
  refine run_cond rfl (fun h3 => ?_) (fun h3 => ?_)
  · rw [hkv] at h3
    repeat (first | refine zz ?_ | refine zx fun _ => ?_)
    refine run_ret hC (rs := [.tmp 2, .tmp 3, .tmp 4]) rfl (resT rfl (resT rfl (resT rfl resN))) (fun _ h => h) ⟨?_, rfl, rfl⟩
    have h4 : ((rest1 s).size : Int) < (k : Int) := of_decide_eq_true h3
    rw [numR, if_neg h, if_neg h2, hkb, if_pos h4]
    rfl
  rw [hkv] at h3
  have h4 : ¬ ((rest1 s).size : Int) < (k : Int) := of_decide_eq_false h3
  have h4' : k ≤ (rest1 s).size := by omega
  refine run_as 3 (.int .i64 (k : Int)) rfl (by rw [hkv]) ?_
  refine run_as 0 (.string (rest1 s)) rfl rfl ?_
  repeat (first | refine zz ?_ | refine zx fun _ => ?_)
  refine run_loopN (fun i σ1 M1 L1 => i ≤ k ∧ σ1 = [(25, .int .i64 (i : Int)), (24, .int .i64 (k : Int)), (2, .int .u64 (numV (rest1 s) i)), (3, .int .i64 (k : Int)), (0, .string (rest1 s))] ∧ M = M1 ∧ L = L1) k [(25, .int .i64 ((0 : Nat) : Int)), (24, .int .i64 (k : Int)), (2, .int .u64 0), (3, .int .i64 (k : Int)), (0, .string (rest1 s))] ?_ ⟨Nat.zero_le _, rfl, rfl, rfl⟩ (fun j _ _ _ h => h.1) ?_
  · exact ⟨rfl, rfl, rfl, rfl, rfl, trivial⟩
  rintro i _ _ _ ⟨hi, rfl, rfl, rfl⟩ hnext
  repeat (first | refine zz ?_ | refine zx fun _ => ?_)
  refine run_cond rfl (fun h5 => ?_) (fun h5 => ?_)
  · have hik : i < k := by simpa using h5
    obtain ⟨b, hb, hb'⟩ := byte_at (s := rest1 s) (i := i) (by omega)
    repeat (first | refine zz ?_ | refine zx fun _ => ?_ | refine runL_q (qt_shl rfl rfl (fun _ => by decide)) rfl rfl rfl ?_ | refine runL_q (qt_strIndex tok rfl rfl rfl (fun _ => hb)) rfl rfl rfl ?_)
    exact run_sub' (hnext _ _ _ ⟨hik, rfl, rfl, rfl⟩) ⟨lk_succ rfl (by omega), rfl, by rw [numV, hb']; rfl, rfl, rfl, trivial⟩
  · have hik : i = k := by simp at h5; omega
    subst hik
    obtain ⟨b, hb, hb'⟩ := byte_at (s := rest1 s) (i := 0) (by omega)
    have hz : (byte s 0 - 247).toNat = i := by omega
    repeat (first | refine zz ?_ | refine zx fun _ => ?_ | refine runL_q (qt_strIndex (n := 0) tok rfl rfl rfl (fun _ => hb)) rfl rfl rfl ?_)
    refine run_cond rfl (fun h6 => ?_) (fun h6 => ?_)
    · repeat (first | refine zz ?_ | refine zx fun _ => ?_)
      refine run_ret hC (rs := [.tmp 2, .tmp 3, .tmp 4]) rfl (resT rfl (resT rfl (resT rfl resN))) (fun _ h => h) ⟨?_, rfl, rfl⟩
      have h7 : byte (rest1 s) 0 = 0 ∨ numV (rest1 s) i ≤ 247 := by rw [hb']; simpa using h6
      rw [numR, if_neg h, if_neg h2, hz, if_neg (by rw [hkb]; exact h4), if_pos h7]
      rfl
    · repeat (first | refine zz ?_ | refine zx fun _ => ?_)
      refine run_ret hC (rs := [.tmp 2, .tmp 3, .tmp 4]) rfl (resT rfl (resT rfl (resT rfl resN))) (fun _ h => h) ⟨?_, rfl, rfl⟩
      have h7 : ¬ (byte (rest1 s) 0 = 0 ∨ numV (rest1 s) i ≤ 247) := by rw [hb']; simpa using h6
      rw [numR, if_neg h, if_neg h2, hz, if_neg (by rw [hkb]; exact h4), if_neg h7, hkb, wrap64_succ (by omega)]
      rfl
end Go.Proofs.YtladcmfbkiogbaaGreatDoor
namespace Go.Proofs.YtladcmfbkiogbaaGreatDoor
open Go.Chi
set_option maxRecDepth 10000
def abc : ByteArray := ⟨#[97, 98, 99, 100, 101, 102, 103, 104, 105, 106, 107, 108, 109, 110, 111, 112, 113, 114, 115, 116, 117, 118, 119, 120, 121, 122, 48, 49, 50, 51, 52, 53, 54, 55, 56, 57, 47, 46, 45]⟩
theorem sliteIB_ok (M : Mem) (L : HL) (s : ByteArray) (c : Int) : TrQ Tryz.prog 176 [.string s, .int .u8 c] M L (.int .i64 (firstIdx s c.toNat.toUInt8)) := by
  refine Tr.intro 8 Tryz.func176 rfl rfl Tryz.call176 rfl ?_; intro C hC hro
  repeat (first | refine zz ?_ | refine zx fun _ => ?_ | refine runL_q (qt_callX Tryz.func209 (by kernel_rfl) (by kernel_rfl) (by kernel_rfl) (e := Extern.BytealgIndexByte.indexByte) (by kernel_rfl) rfl (fun w => run_indexByte_string s c w)) rfl rfl rfl ?_)
  exact run_ret hC (rs := [.tmp 4]) rfl (resT rfl resN) (fun _ h => h) ⟨rfl, rfl, rfl⟩
theorem indexByte_ok (M : Mem) (L : HL) (s : ByteArray) (c : Int) : TrQ Tryz.prog 197 [.string s, .int .u8 c] M L (.int .i64 (firstIdx s c.toNat.toUInt8)) := by
  refine Tr.intro 8 Tryz.func197 rfl rfl Tryz.call197 rfl ?_; intro C hC hro
  repeat (first | refine zz ?_ | refine zx fun _ => ?_ | refine runL_q (qt_callF rfl (fun _ => sliteIB_ok _ _ s c)) rfl rfl rfl ?_)
  exact run_ret hC (rs := [.tmp 4]) rfl (resT rfl resN) (fun _ h => h) ⟨rfl, rfl, rfl⟩
theorem validRune_ok (M : Mem) (L : HL) (r : Int) : TrQ Tryz.prog 198 [.int .i32 r] M L (.bool (validRune r)) := by
  refine Tr.intro 17 Tryz.func198 rfl rfl Tryz.call198 rfl ?_; intro C hC hro
  repeat (first | refine zz ?_ | refine zx fun _ => ?_)
  refine run_cond rfl (fun h => ?_) (fun h => ?_)
  · repeat (first | refine zz ?_ | refine zx fun _ => ?_)
    refine run_ret hC (rs := [.tmp 2]) rfl (resT rfl resN) (fun _ h => h) ⟨?_, rfl, rfl⟩
    rw [show validRune r = true from decide_eq_true (.inl (by simpa using h))]
    rfl
  · repeat (first | refine zz ?_ | refine zx fun _ => ?_)
    refine run_cond rfl (fun h' => ?_) (fun h' => ?_)
    · repeat (first | refine zz ?_ | refine zx fun _ => ?_)
      refine run_ret hC (rs := [.tmp 2]) rfl (resT rfl resN) (fun _ h => h) ⟨?_, rfl, rfl⟩
      rw [show validRune r = true from decide_eq_true (.inr (by simpa using h'))]
      rfl
    · repeat (first | refine zz ?_ | refine zx fun _ => ?_)
      refine run_ret hC (rs := [.tmp 2]) rfl (resT rfl resN) (fun _ h => h) ⟨?_, rfl, rfl⟩
      rw [show validRune r = false from decide_eq_false (by
        rintro (h1 | h1)
        · simp [h1.1, h1.2] at h
        · simp [h1.1, h1.2] at h')]
      rfl
def runeIxG (z : ByteArray) (r : Int) : Int := if 0 ≤ r ∧ r < 128 then firstIdx z (IntKind.u8.wrap r).toNat.toUInt8 else -1
def runeIx (r : Int) : Int := if 0 ≤ r ∧ r < 128 then firstIdx abc (IntKind.u8.wrap r).toNat.toUInt8 else -1
theorem abc_lt : ∀ b ∈ abc.data.toList, b.toNat < 128 := by decide +kernel
set_option maxHeartbeats 4000000 in
theorem indexRuneG_ok (M : Mem) (L : HL) (z : ByteArray) (r : Int) (hz : ∀ b ∈ z.data.toList, b.toNat < 128) : TrQ Tryz.prog 159 [.string z, .int .i32 r] M L (.int .i64 (runeIxG z r)) := by
  refine Tr.intro 187 Tryz.func159 rfl rfl Tryz.call159 rfl ?_; intro C hC hro
  repeat (first | refine zz ?_ | refine zx fun _ => ?_)
  refine run_cond rfl (fun h => ?_) (fun h => ?_)
  · have h0 : 0 ≤ r ∧ r < 128 := by simpa using h
    repeat (first | refine zz ?_ | refine zx fun _ => ?_ | refine runL_q (qt_callF rfl (fun _ => indexByte_ok _ _ z _)) rfl rfl rfl ?_)
    refine run_ret hC (rs := [.tmp 4]) rfl (resT rfl resN) (fun _ h => h) ⟨?_, rfl, rfl⟩
    rw [runeIxG, if_pos h0]; rfl
  have h0 : ¬ (0 ≤ r ∧ r < 128) := by simpa using h
  have hres : runeIxG z r = -1 := by rw [runeIxG, if_neg h0]
  repeat (first | refine zz ?_ | refine zx fun _ => ?_)
  refine run_cond rfl (fun h1 => ?_) (fun h1 => ?_)
  · repeat (first | refine zz ?_ | refine zx fun _ => ?_ | (refine runL_op (st_rangeS tok rfl rfl) rfl rfl rfl ?_; rintro _ _ _ ⟨b, rfl, rfl, rfl⟩))
    refine run_loopN (fun i σ1 M1 L1 => i ≤ z.size ∧ σ1 = [(175, .pointer (some ⟨b, 0, none⟩))] ∧ M = M1 ∧ L1 = (b, .stringIter z i) :: L) z.size [(175, .pointer (some ⟨b, 0, none⟩))] ?_ ⟨Nat.zero_le _, rfl, rfl, rfl⟩ (fun j _ _ _ h => h.1) ?_
    · exact ⟨rfl, trivial⟩
    rintro i _ _ _ ⟨hi, rfl, rfl, rfl⟩ hnext
    by_cases hlt : i < z.size
    · have hd : Utf8.decode z i = ((z[i]'hlt).toNat, 1) := decode_ascii z i hlt (hz _ (Array.getElem_mem_toList (xs := z.data) hlt))
      have hb' : (z[i]'hlt).toNat < 128 := hz _ (Array.getElem_mem_toList (xs := z.data) hlt)
      repeat (first | refine zz ?_ | refine zx fun _ => ?_ | (refine runL_op (st_nextS rfl (by (repeat (first | with_reducible apply Upd.here | with_reducible apply Upd.there | with_reducible apply Upd.append_left))) hlt) rfl rfl rfl ?_; rintro _ _ _ ⟨rfl, rfl, rfl⟩))
      refine run_cond rfl (fun _ => ?_) (fun h => by cases h)
      repeat (first | refine zz ?_ | refine zx fun _ => ?_)
      refine run_cond rfl (fun h2 => ?_) (fun h2 => ?_)
      · exfalso
        rw [hd] at h2
        have h3 : (((z[i]'hlt).toNat : Int)) = 65533 := by simpa using h2
        omega
      · repeat (first | refine zz ?_ | refine zx fun _ => ?_)
        exact run_sub' (hnext _ _ _ ⟨hlt, rfl, rfl, by rw [hd]⟩) ⟨rfl, trivial⟩
    · repeat (first | refine zz ?_ | refine zx fun _ => ?_ | refine runL_q (qt_nextEnd rfl (by (repeat (first | with_reducible apply List.mem_cons_self | with_reducible assumption | with_reducible apply List.mem_cons_of_mem | with_reducible apply List.mem_append_right))) hlt) rfl rfl rfl ?_)
      refine run_cond rfl (fun h => by cases h) (fun _ => ?_)
      repeat (first | refine zz ?_ | refine zx fun _ => ?_)
      exact run_ret hC (rs := [.tmp 4]) rfl (resT rfl resN) (fun _ h => h.drop) ⟨by rw [hres]; rfl, rfl, rfl⟩
  · repeat (first | refine zz ?_ | refine zx fun _ => ?_ | refine runL_q (qt_callF rfl (fun _ => validRune_ok _ _ r)) rfl rfl rfl ?_)
    refine run_cond rfl (fun h2 => ?_) (fun h2 => ?_)
    · repeat (first | refine zz ?_ | refine zx fun _ => ?_)
      exact run_ret hC (rs := [.tmp 4]) rfl (resT rfl resN) (fun _ h => h) ⟨by rw [hres]; rfl, rfl, rfl⟩
    have hv : validRune r = true := by simpa using h2
    have h128 : 128 ≤ r := by
      simp only [validRune, decide_eq_true_eq] at hv
      omega
    obtain ⟨hz2, hz4, hlast⟩ := encode_facts r (by rw [validRune_eq]; exact hv) h128
    obtain ⟨m, hm⟩ : ∃ m : Nat, (Utf8.encode r).size = m + 1 := ⟨(Utf8.encode r).size - 1, by omega⟩
    have hlast' := hlast (by omega)
    obtain ⟨c, hc, hc128⟩ : ∃ c : UInt8, (Utf8.encode r)[m]? = some c ∧ 128 ≤ c.toNat := by
      refine ⟨(Utf8.encode r)[m]'(by omega), by simp [hm], ?_⟩
      have : (Utf8.encode r).size - 1 = m := by omega
      simpa only [this] using hlast'
    repeat (first | refine zz ?_ | refine zx fun _ => ?_ | refine run_scope ?_ | refine runL_q (qt_runeStr tok rfl rfl rfl) rfl rfl rfl ?_)
    refine run_as 8 (.int .i64 (m : Int)) rfl (by rw [show (((Utf8.encode r).size : Int) - 1) = (m : Int) by omega, wrap64_nat (by omega)]) ?_
    refine run_as 9 (.int .i64 (m : Int)) rfl (by rw [show (((Utf8.encode r).size : Int) - 1) = (m : Int) by omega, wrap64_nat (by omega)]) ?_
    repeat (first | refine zz ?_ | refine zx fun _ => ?_)
    refine run_loop ?_
    repeat (first | refine zz ?_ | refine zx fun _ => ?_)
    refine run_cond rfl (fun h3 => ?_) (fun h3 => ?_)
    rotate_left
    · repeat (first | refine zz ?_ | refine zx fun _ => ?_)
      exact run_ret hC (rs := [.tmp 4]) rfl (resT rfl resN) (fun _ h => h) ⟨by rw [hres]; rfl, rfl, rfl⟩
    have hmz : m < z.size := by simpa using h3
    obtain ⟨a0, ha0, ha1⟩ : ∃ b : UInt8, z[m]? = some b ∧ b.toNat < 128 := ⟨_, getElem?_pos z m hmz, hz _ (Array.getElem_mem_toList (xs := z.data) hmz)⟩
    repeat (first | refine zz ?_ | refine zx fun _ => ?_ | refine dd ?_ | refine dz ?_ | refine dx fun _ => ?_ | refine run_scope ?_ | refine prn_q rfl (qt_strIndex tok rfl rfl rfl (fun _ => ha0)) (by decide +kernel) rfl rfl rfl ?_ | refine prn_q rfl (qt_strIndex tok rfl rfl rfl (fun _ => hc)) (by decide +kernel) rfl rfl rfl ?_)
    refine run_cond rfl (fun _ => ?_) (fun h4 => ?_)
    rotate_left
    · exfalso
      have h4' : (a0.toNat : Int) = (c.toNat : Int) := by simpa using h4
      omega
    have hm1 : IntKind.i64.wrap ((m : Int) + 1) = ((m + 1 : Nat) : Int) := wrap64_succ (by omega)
    repeat (first | refine zz ?_ | refine zx fun _ => ?_ | refine dd ?_ | refine dz ?_ | refine dx fun _ => ?_)
    refine pr_as 36 (.int .i64 ((m + 1 : Nat) : Int)) rfl (by rw [hm1]) ?_
    repeat (first | refine zz ?_ | refine zx fun _ => ?_ | refine dd ?_ | refine dz ?_ | refine dx fun _ => ?_ | refine prn_q rfl (qt_strLo tok rfl rfl rfl (fun _ => show m + 1 ≤ z.size by omega)) (by decide +kernel) rfl rfl rfl ?_ | refine prn_q rfl (qt_strIndex tok rfl rfl rfl (fun _ => hc)) (by decide +kernel) rfl rfl rfl ?_ | refine prn_q rfl (qt_callF rfl (fun _ => indexByte_ok _ _ _ _)) (by decide +kernel) rfl rfl rfl ?_)
    refine run_cond rfl (fun _ => ?_) (fun h5 => ?_)
    · repeat (first | refine zz ?_ | refine zx fun _ => ?_)
      exact run_ret hC (rs := [.tmp 4]) rfl (resT rfl resN) (fun _ h => h) ⟨by rw [hres]; rfl, rfl, rfl⟩
    · exfalso
      rw [firstIdx_ascii z _ _ _ hz (by simpa using hc128)] at h5
      cases h5
theorem indexRune_ok (M : Mem) (L : HL) (r : Int) : TrQ Tryz.prog 159 [.string abc, .int .i32 r] M L (.int .i64 (runeIx r)) := indexRuneG_ok M L abc r abc_lt
end Go.Proofs.YtladcmfbkiogbaaGreatDoor
namespace Go.Proofs.YtladcmfbkiogbaaGreatDoor
open Go.Chi
set_option maxRecDepth 10000
def inAbc (r : Int) : Bool := decide (0 ≤ runeIx r)
theorem containsRune_ok (M : Mem) (L : HL) (r : Int) : TrQ Tryz.prog 240 [.string abc, .int .i32 r] M L (.bool (inAbc r)) := by
  refine Tr.intro 9 Tryz.func240 rfl rfl Tryz.call240 rfl ?_; intro C hC hro
  repeat (first | refine zz ?_ | refine zx fun _ => ?_ | refine runL_q (qt_callF rfl (fun _ => indexRune_ok _ _ r)) rfl rfl rfl ?_)
  exact run_ret hC (rs := [.tmp 4]) rfl (resT rfl resN) (fun _ h => h) ⟨rfl, rfl, rfl⟩
theorem decode_wide (s : ByteArray) {p : Nat} (h : p < s.size) : 1 ≤ (Utf8.decode s p).2 := by
  by_cases ha : (s[p]'h).toNat < 128
  · rw [decode_ascii s p h ha]; exact Nat.le_refl _
  · exact (decode_high s p h (by omega)).2
def namedAt (s : ByteArray) : Nat → Nat → Bool
  | 0, _ => true
  | f + 1, p => if p < s.size then inAbc (Utf8.decode s p).1 && namedAt s f (p + (Utf8.decode s p).2) else true
def namedR (s : ByteArray) : Bool := namedAt s (s.size + 1) 0 && decide (s.size ≠ 0)
theorem namedAt_end (s : ByteArray) {p : Nat} (h : ¬ p < s.size) : ∀ f, namedAt s f p = true
  | 0 => rfl
  | f + 1 => by rw [namedAt, if_neg h]
set_option maxRecDepth 10000 in
set_option maxHeartbeats 4000000 in
theorem named_ok (M : Mem) (L : HL) (s : ByteArray) : TrQ Tryz.prog 211 [.string s] M L (.bool (namedR s)) := by
  refine Tr.intro 15 Tryz.func211 rfl rfl Tryz.call211 rfl ?_; intro C hC hro
  repeat (first | refine zz ?_ | refine zx fun _ => ?_ | (refine runL_op (st_rangeS tok rfl rfl) rfl rfl rfl ?_; rintro _ _ _ ⟨b, rfl, rfl, rfl⟩))
  refine run_loopN (fun i σ1 M1 L1 => i ≤ s.size ∧ ∃ p, i ≤ p ∧ namedAt s (s.size + 1 - i) p = namedAt s (s.size + 1) 0 ∧ σ1 = [(6, .pointer (some ⟨b, 0, none⟩)), (0, .string s)] ∧ M = M1 ∧ L1 = (b, .stringIter s p) :: L) s.size [(6, .pointer (some ⟨b, 0, none⟩)), (0, .string s)] ?_ ⟨Nat.zero_le _, 0, Nat.le_refl _, rfl, rfl, rfl, rfl⟩ (fun j _ _ _ h => h.1) ?_
  · exact ⟨rfl, rfl, trivial⟩
  rintro i _ _ _ ⟨hi, p, hip, hn, rfl, rfl, rfl⟩ hnext
  by_cases hlt : p < s.size
  · have hw := decode_wide s hlt
    rw [show s.size + 1 - i = (s.size + 1 - (i + 1)) + 1 by omega, namedAt, if_pos hlt] at hn
    repeat (first | refine zz ?_ | refine zx fun _ => ?_ | (refine runL_op (st_nextS rfl (by (repeat (first | with_reducible apply Upd.here | with_reducible apply Upd.there | with_reducible apply Upd.append_left))) hlt) rfl rfl rfl ?_; rintro _ _ _ ⟨rfl, rfl, rfl⟩))
    refine run_cond rfl (fun _ => ?_) (fun h => by cases h)
    repeat (first | refine zz ?_ | refine zx fun _ => ?_ | refine runL_q (qt_callF rfl (fun _ => containsRune_ok _ _ _)) rfl rfl rfl ?_)
    refine run_cond rfl (fun h2 => ?_) (fun h2 => ?_)
    · have h3 : inAbc (Utf8.decode s p).1 = false := by simpa using h2
      repeat (first | refine zz ?_ | refine zx fun _ => ?_)
      refine run_ret hC (rs := [.tmp 2]) rfl (resT rfl resN) (fun _ h => h.drop) ⟨?_, rfl, rfl⟩
      rw [namedR, ← hn, h3]; rfl
    · have h3 : inAbc (Utf8.decode s p).1 = true := by simpa using h2
      repeat (first | refine zz ?_ | refine zx fun _ => ?_)
      exact run_sub' (hnext _ _ _ ⟨by omega, p + (Utf8.decode s p).2, by omega, by rw [← hn, h3]; rfl, rfl, rfl, rfl⟩) ⟨rfl, rfl, trivial⟩
  · rw [namedAt_end s hlt] at hn
    repeat (first | refine zz ?_ | refine zx fun _ => ?_ | refine runL_q (qt_nextEnd rfl (by (repeat (first | with_reducible apply List.mem_cons_self | with_reducible assumption | with_reducible apply List.mem_cons_of_mem | with_reducible apply List.mem_append_right))) hlt) rfl rfl rfl ?_)
    refine run_cond rfl (fun h => by cases h) (fun _ => ?_)
    repeat (first | refine zz ?_ | refine zx fun _ => ?_)
    refine run_ret hC (rs := [.tmp 2]) rfl (resT rfl resN) (fun _ h => h.drop) ⟨?_, rfl, rfl⟩
    rw [namedR, ← hn, empty_beq]
    by_cases h0 : s.size = 0
    · simp [h0]; rfl
    · simp [h0]; rfl
theorem u64_pos (k : IntKind) (h : k = .u64) (x : Int) : 0 ≤ k.wrap x ∧ k.wrap x < 18446744073709551616 := by
  subst h
  simp only [IntKind.wrap, IntKind.signed, IntKind.bits]
  simp
  omega
theorem byte_pos (s : ByteArray) (i : Nat) : 0 ≤ byte s i ∧ byte s i < 256 := by
  have := ((s[i]?).getD 0).toNat_lt
  simp only [byte]
  omega
theorem numV_pos (s : ByteArray) (i : Nat) : 0 ≤ numV s i := by
  cases i with
  | zero => exact Int.le_refl _
  | succ i => exact (u64_pos .u64 rfl _).1
theorem numR_pos (s : ByteArray) : 0 ≤ (numR s).1 := by
  unfold numR
  repeat' split
  all_goals first | exact Int.le_refl _ | exact (byte_pos _ _).1 | exact numV_pos _ _
theorem numR_len (s : ByteArray) (h : (numR s).2.2 = 0) : ∃ n : Nat, (numR s).2.1 = n ∧ 1 ≤ n ∧ n ≤ s.size := by
  have hb := byte_pos s 0
  have hr : s.size ≠ 0 → (rest1 s).size = s.size - 1 := fun _ => by simp [rest1]
  unfold numR at h ⊢
  split at h
  · cases h
  · rename_i h0
    rw [if_neg h0]
    split at h
    · rename_i h1; rw [if_pos h1]; exact ⟨1, rfl, by omega, by omega⟩
    · rename_i h1
      rw [if_neg h1]
      split at h
      · cases h
      · rename_i h2
        rw [if_neg h2]
        split at h
        · cases h
        · rename_i h3
          rw [if_neg h3]
          have := hr h0
          exact ⟨(byte s 0 - 247 + 1).toNat, show byte s 0 - 247 + 1 = _ by omega, by omega, by omega⟩
def textR (s : ByteArray) (most : Nat) : ByteArray × Int × Int :=
  if (numR s).2.2 ≠ 0 then (⟨#[]⟩, 0, (numR s).2.2) else
  if (most : Int) < (numR s).1 then (⟨#[]⟩, 0, 5) else
  if (s.size : Int) - (numR s).2.1 < (numR s).1 then (⟨#[]⟩, 0, 6) else
  (s.extract (numR s).2.1.toNat ((numR s).2.1 + (numR s).1).toNat, (numR s).2.1 + (numR s).1, 0)
theorem u64_nat {n : Nat} (h : n < 18446744073709551616) : IntKind.u64.wrap (n : Int) = n := by
  simp only [IntKind.wrap, IntKind.signed, IntKind.bits]
  simp
  omega
set_option maxRecDepth 10000 in
set_option maxHeartbeats 4000000 in
theorem readText_ok (M : Mem) (L : HL) (s : ByteArray) (most : Nat) (hs : s.size < 4611686018427387904) (hm : most < 4611686018427387904) : TrQ Tryz.prog 203 [.string s, .int .i64 (most : Int)] M L (.tuple ⟨[.string (textR s most).1, .int .i64 (textR s most).2.1, .int .i64 (textR s most).2.2]⟩) := by
  refine Tr.intro 43 Tryz.func203 rfl rfl Tryz.call203 rfl ?_; intro C hC hro
  repeat (first | refine zz ?_ | refine zx fun _ => ?_ | refine runL_q (qt_callF rfl (fun _ => readNum_ok _ _ s)) rfl rfl rfl ?_)
  refine run_cond rfl (fun h => ?_) (fun h => ?_)
  · have h0 : (numR s).2.2 ≠ 0 := by simpa using h
    repeat (first | refine zz ?_ | refine zx fun _ => ?_)
    exact run_ret hC (rs := [.tmp 4, .tmp 5, .tmp 6]) rfl (resT rfl (resT rfl (resT rfl resN))) (fun _ h => h) ⟨by rw [textR, if_pos h0]; rfl, rfl, rfl⟩
  have h0 : (numR s).2.2 = 0 := by simpa using h
  obtain ⟨n, hn, hn1, hn2⟩ := numR_len s h0
  have hv0 := numR_pos s
  have e1 : IntKind.u64.wrap (if (0 : Int) > (most : Int) then 0 else (most : Int)) = (most : Int) := by rw [if_neg (by omega), u64_nat (by omega)]
  repeat (first | refine zz ?_ | refine zx fun _ => ?_ | refine runL_q (qt_max2 rfl rfl) rfl rfl rfl ?_)
  refine run_cond rfl (fun h1 => ?_) (fun h1 => ?_)
  · rw [e1] at h1
    have h2 : (most : Int) < (numR s).1 := by simpa using h1
    repeat (first | refine zz ?_ | refine zx fun _ => ?_)
    exact run_ret hC (rs := [.tmp 4, .tmp 5, .tmp 6]) rfl (resT rfl (resT rfl (resT rfl resN))) (fun _ h => h) ⟨by rw [textR, if_neg (by simp [h0]), if_pos h2]; rfl, rfl, rfl⟩
  rw [e1] at h1
  have h2 : ¬ (most : Int) < (numR s).1 := by simpa using h1
  have e2 : IntKind.u64.wrap (IntKind.i64.wrap ((s.size : Int) - (numR s).2.1)) = (s.size : Int) - (numR s).2.1 := by
    rw [hn, show (s.size : Int) - (n : Int) = ((s.size - n : Nat) : Int) by omega, wrap64_nat (by omega), u64_nat (by omega)]
  obtain ⟨v, hv⟩ : ∃ v : Nat, (numR s).1 = v := ⟨(numR s).1.toNat, by omega⟩
  repeat (first | refine zz ?_ | refine zx fun _ => ?_)
  refine run_cond rfl (fun h3 => ?_) (fun h3 => ?_)
  · have h4 : (s.size : Int) - (numR s).2.1 < (numR s).1 := by
      have := of_decide_eq_true h3
      rwa [e2] at this
    repeat (first | refine zz ?_ | refine zx fun _ => ?_)
    exact run_ret hC (rs := [.tmp 4, .tmp 5, .tmp 6]) rfl (resT rfl (resT rfl (resT rfl resN))) (fun _ h => h) ⟨by rw [textR, if_neg (by simp [h0]), if_neg h2, if_pos h4]; rfl, rfl, rfl⟩
  have h4 : ¬ (s.size : Int) - (numR s).2.1 < (numR s).1 := by
    have := of_decide_eq_false h3
    rwa [e2] at this
  refine run_as 5 (.int .i64 (n : Int)) rfl (by rw [hn]) ?_
  refine run_as 7 (.int .u64 (v : Int)) rfl (by rw [hv]) ?_
  have e3 : IntKind.i64.wrap ((n : Int) + IntKind.i64.wrap (v : Int)) = ((n + v : Nat) : Int) := by
    rw [wrap64_nat (by omega), show (n : Int) + (v : Int) = ((n + v : Nat) : Int) by omega, wrap64_nat (by omega)]
  repeat (first | refine zz ?_ | refine zx fun _ => ?_)
  refine runL_as 37 (.int .i64 ((n + v : Nat) : Int)) rfl (by rw [e3]) ?_
  repeat (first | refine zz ?_ | refine zx fun _ => ?_ | refine runL_q (qt_strMid tok rfl rfl rfl rfl (fun _ => ⟨by omega, by omega⟩)) rfl rfl rfl ?_)
  refine run_ret hC (rs := [.tmp 4, .tmp 5, .tmp 6]) rfl (resT rfl (resT rfl (resT rfl resN))) (fun _ h => h) ⟨?_, rfl, rfl⟩
  rw [textR, if_neg (by simp [h0]), if_neg h2, if_neg h4, e3, hn, hv, show ((n : Int) + (v : Int)).toNat = n + v by omega, Int.toNat_natCast, show (n : Int) + (v : Int) = ((n + v : Nat) : Int) by omega]
  rfl
end Go.Proofs.YtladcmfbkiogbaaGreatDoor
namespace Go.Chi
open Go.RowKit
theorem Hp.below {M : Mem} {L : HL} {w w' : World} (h : Hp M L w) (hb : Below w.heap.size w w') : Hp M L w' :=
  have hk : ∀ (b : Nat) (o : Obj), w.heap[b]? = some o → w'.heap[b]? = some o := fun b o ho => by
    rw [hb.block b (Array.getElem?_eq_some_iff.1 ho).1]; exact ho
  ⟨hb.os.trans h.os, hb.output.trans h.out, hb.tape.trans h.tape, fun b o ho => hk b o (h.blk b o ho), fun p hp => hk _ _ (h.own p hp), h.nodup, h.apart⟩
theorem tr_calls {P : Program} {f : FuncId} {args : List Value} {M : Mem} {L : HL} {K : Value → Prop} (hc : ∀ w, (callFunc f ⟨args⟩).run P w = .ok (.enter f ⟨args⟩) w)
    (h : ∀ w, Hp M L w → Calls P f ⟨args⟩ w (fun e w' => (∃ v, e = .returned v ∧ K v) ∧ Below w.heap.size w w')) : Tr P f args M L (fun v M' L' => M = M' ∧ L' = L ∧ K v) :=
  ⟨hc, fun w hw cs => by
    obtain ⟨e, w', fr, ⟨⟨v, rfl, hk⟩, hb⟩, hs, hf, hl⟩ := h w hw cs
    exact ⟨v, w', fr, ⟨M, L, hw.below hb, rfl, rfl, hk⟩, hs, hf, hl⟩⟩
theorem trQ_calls {P : Program} {f : FuncId} {args : List Value} {M : Mem} {L : HL} {v : Value} (hc : ∀ w, (callFunc f ⟨args⟩).run P w = .ok (.enter f ⟨args⟩) w)
    (h : ∀ w, Hp M L w → Calls P f ⟨args⟩ w (fun e w' => e = .returned v ∧ Below w.heap.size w w')) : TrQ P f args M L v :=
  ⟨hc, fun w hw cs => by
    obtain ⟨e, w', fr, ⟨rfl, hb⟩, hs, hf, hl⟩ := h w hw cs
    exact ⟨v, w', fr, ⟨M, L, hw.below hb, rfl, rfl, rfl⟩, hs, hf, hl⟩⟩
theorem below_iter (w : World) (s : ByteArray) (p : Nat) : Below w.heap.size w (w.iter s p) := by
  refine ⟨rfl, rfl, rfl, ?_, fun k hk => ?_⟩
  · show w.heap.size ≤ (w.heap.push _).size
    rw [Array.size_push]; omega
  · show (w.heap.push _)[k]? = _
    rw [Array.getElem?_push, if_neg (by omega)]
def VarM (M : Mem) (b : Nat) (cs : List Value) : Prop := ∃ t fz, M.blk b = some (.cells ⟨cs⟩ t fz)
theorem VarM.le {M M' : Mem} {b : Nat} {cs : List Value} (h : VarM M b cs) (hm : M.le M') : VarM M' b cs := by
  obtain ⟨t, fz, h⟩ := h
  exact ⟨t, fz, hm.blk _ _ h⟩
theorem VarM.var {P : Program} {M : Mem} {L : HL} {w : World} {n : String} {b : Nat} {cs : List Value} (h : VarM M b cs) (hw : Hp M L w) (hg : P.globalNamed n = some b) : w.var? P n = some ⟨cs⟩ := by
  obtain ⟨t, fz, h⟩ := h
  have := hw.blk _ _ h
  simp [World.var?, hg, this]
end Go.Chi
namespace Go.Proofs
open Go.Shelf
def synE {α : Type} : Lib.NumEnd α → Bool
  | .ok _ => false
  | .range => false
  | _ => true
def Tryz.lays103_ren : Go.Shelf.Ren := ⟨fun | 103 => 90 | 210 => 124 | 206 => 156 | n => n, fun | 9 => 9 | 4 => 4 | 24 => 130 | 3 => 3 | n => n, fun | n => n⟩
theorem Tryz.lays103 : Go.Proofs.Lays.n103 Tryz.prog Tryz.lays103_ren := {
  mixed := by kernel_rfl
  f103 := Tryz.func90.trans (congrArg some (by kernel_rfl))
  f206 := Tryz.func156.trans (congrArg some (by kernel_rfl))
  f210 := Tryz.func124.trans (congrArg some (by kernel_rfl))
  t3 := Tryz.underlying3
  a3 := Tryz.isAgg3
  z3 := Tryz.sizeOf3
  v3 := Tryz.zeroValue3
  t4 := Tryz.underlying4
  a4 := Tryz.isAgg4
  z4 := Tryz.sizeOf4
  v4 := Tryz.zeroValue4
  t9 := Tryz.underlying9
  a9 := Tryz.isAgg9
  z9 := Tryz.sizeOf9
  v9 := Tryz.zeroValue9
  t24 := Tryz.underlying130
  a24 := Tryz.isAgg130
  z24 := Tryz.sizeOf130
  v24 := Tryz.zeroValue130 }
open Go.RowKit in
theorem Tryz.strings_CutPrefix (s p : ByteArray) (w : World) :
    Calls Tryz.prog 90 #[.string s, .string p] w fun e w' => e = .returned (.tuple #[.string ⟨(Lib.trimPrefix s.data.toList p.data.toList).toArray⟩, .bool (Lib.hasPrefix s.data.toList p.data.toList)]) ∧ w' = w := Any.strings_CutPrefix Tryz.lays103 s p w
def Tryz.lays195_ren : Go.Shelf.Ren := ⟨fun | 195 => 121 | n => n, fun | 9 => 9 | 3 => 3 | 0 => 0 | 4 => 4 | n => n, fun | n => n⟩
theorem Tryz.lays195 : Go.Proofs.Lays.n195 Tryz.prog Tryz.lays195_ren := {
  mixed := by kernel_rfl
  f195 := Tryz.func121.trans (congrArg some (by kernel_rfl))
  t0 := Tryz.underlying0
  a0 := Tryz.isAgg0
  z0 := Tryz.sizeOf0
  v0 := Tryz.zeroValue0
  t3 := Tryz.underlying3
  a3 := Tryz.isAgg3
  z3 := Tryz.sizeOf3
  v3 := Tryz.zeroValue3
  t4 := Tryz.underlying4
  a4 := Tryz.isAgg4
  z4 := Tryz.sizeOf4
  v4 := Tryz.zeroValue4
  t9 := Tryz.underlying9
  a9 := Tryz.isAgg9
  z9 := Tryz.sizeOf9
  v9 := Tryz.zeroValue9 }
open Go.RowKit in
theorem Tryz.utf8_RuneCountInString (s : ByteArray) (w : World) (hs : s.size < 9223372036854775807) :
    Calls Tryz.prog 121 #[.string s] w fun e w' => e = .returned (.int .i64 (Lib.runeCount s)) ∧ ∃ pos, w' = w.iter s pos := Any.utf8_RuneCountInString Tryz.lays195 s w hs
def Tryz.laysM171_ren : Go.Shelf.Ren := ⟨fun | 171 => 35 | 243 => 76 | 246 => 114 | 283 => 144 | 284 => 145 | 285 => 146 | 286 => 147 | 129 => 184 | 317 => 183 | 318 => 185 | 319 => 186 | 320 => 187 | 337 => 215 | 338 => 216 | n => n, fun | 3 => 3 | 9 => 9 | 2 => 2 | 4 => 4 | 171 => 170 | 0 => 0 | 53 => 171 | 37 => 66 | 5 => 5 | 173 => 174 | 212 => 213 | 51 => 214 | 20 => 20 | 213 => 215 | 46 => 206 | 232 => 255 | 233 => 256 | n => n, fun | 17 => 1 | 18 => 4 | 19 => 5 | n => n⟩
theorem Tryz.laysM171 : Go.Proofs.LaysM.n171 Tryz.prog Tryz.laysM171_ren := {
  mixed := by kernel_rfl
  f129 := Tryz.func184.trans (congrArg some (by kernel_rfl))
  f171 := Tryz.func35.trans (congrArg some (by kernel_rfl))
  f243 := Tryz.func76.trans (congrArg some (by kernel_rfl))
  f246 := Tryz.func114.trans (congrArg some (by kernel_rfl))
  f283 := Tryz.func144.trans (congrArg some (by kernel_rfl))
  f284 := Tryz.func145.trans (congrArg some (by kernel_rfl))
  f285 := Tryz.func146.trans (congrArg some (by kernel_rfl))
  f286 := Tryz.func147.trans (congrArg some (by kernel_rfl))
  f317 := Tryz.func183.trans (congrArg some (by kernel_rfl))
  f318 := Tryz.func185.trans (congrArg some (by kernel_rfl))
  f319 := Tryz.func186.trans (congrArg some (by kernel_rfl))
  f320 := Tryz.func187.trans (congrArg some (by kernel_rfl))
  f337 := Tryz.func215.trans (congrArg some (by kernel_rfl))
  f338 := Tryz.func216.trans (congrArg some (by kernel_rfl))
  t0 := Tryz.underlying0
  a0 := Tryz.isAgg0
  z0 := Tryz.sizeOf0
  v0 := Tryz.zeroValue0
  t2 := Tryz.underlying2
  a2 := Tryz.isAgg2
  z2 := Tryz.sizeOf2
  v2 := Tryz.zeroValue2
  t3 := Tryz.underlying3
  a3 := Tryz.isAgg3
  z3 := Tryz.sizeOf3
  v3 := Tryz.zeroValue3
  t4 := Tryz.underlying4
  a4 := Tryz.isAgg4
  z4 := Tryz.sizeOf4
  v4 := Tryz.zeroValue4
  t5 := Tryz.underlying5
  a5 := Tryz.isAgg5
  z5 := Tryz.sizeOf5
  v5 := Tryz.zeroValue5
  t9 := Tryz.underlying9
  a9 := Tryz.isAgg9
  z9 := Tryz.sizeOf9
  v9 := Tryz.zeroValue9
  t20 := Tryz.underlying20
  a20 := Tryz.isAgg20
  z20 := Tryz.sizeOf20
  v20 := Tryz.zeroValue20
  t37 := Tryz.underlying66
  a37 := Tryz.isAgg66
  z37 := Tryz.sizeOf66
  v37 := Tryz.zeroValue66
  t46 := Tryz.underlying206
  a46 := Tryz.isAgg206
  z46 := Tryz.sizeOf206
  v46 := Tryz.zeroValue206
  t51 := Tryz.underlying214
  a51 := Tryz.isAgg214
  z51 := Tryz.sizeOf214
  v51 := Tryz.zeroValue214
  t53 := Tryz.underlying171
  a53 := Tryz.isAgg171
  z53 := Tryz.sizeOf171
  v53 := Tryz.zeroValue171
  t171 := Tryz.underlying170
  a171 := Tryz.isAgg170
  z171 := Tryz.sizeOf170
  v171 := Tryz.zeroValue170
  t173 := Tryz.underlying174
  a173 := Tryz.isAgg174
  z173 := Tryz.sizeOf174
  v173 := Tryz.zeroValue174
  t212 := Tryz.underlying213
  a212 := Tryz.isAgg213
  z212 := Tryz.sizeOf213
  v212 := Tryz.zeroValue213
  t213 := Tryz.underlying215
  a213 := Tryz.isAgg215
  z213 := Tryz.sizeOf215
  t232 := Tryz.underlying255
  a232 := Tryz.isAgg255
  z232 := Tryz.sizeOf255
  v232 := Tryz.zeroValue255
  t233 := Tryz.underlying256
  a233 := Tryz.isAgg256
  z233 := Tryz.sizeOf256
  v233 := Tryz.zeroValue256
  g17 := by kernel_rfl
  g18 := by kernel_rfl
  g19 := by kernel_rfl
  i0 := by kernel_rfl
  i2 := by kernel_rfl
  i3 := by kernel_rfl
  i4 := by kernel_rfl
  i5 := by kernel_rfl
  i9 := by kernel_rfl
  i20 := by kernel_rfl
  i37 := by kernel_rfl
  i46 := by kernel_rfl
  i51 := by kernel_rfl
  i53 := by kernel_rfl
  i171 := by kernel_rfl
  i173 := by kernel_rfl
  i212 := by kernel_rfl
  i232 := by kernel_rfl
  i233 := by kernel_rfl
  m17 := by kernel_rfl
  m18 := by kernel_rfl
  m19 := by kernel_rfl }
open Go.RowKit Go.Sort Go.Lib in
theorem Tryz.strconv_Itoa (n : Int) (h0 : -9223372036854775808 ≤ n) (h1 : n ≤ 9223372036854775807) (w : World) (htab : Lib.TabIs Tryz.prog w "internal/strconv.uint64pow10" .u64 Lib.pow10Tab) :
    Calls Tryz.prog 35 #[.int .i64 n] w fun e w' => e = .returned (.string ⟨(Lib.itoa n).toArray⟩) ∧ ∃ k os, w' = grow (w.drewN k) os := Any.strconv_Itoa Tryz.laysM171 n h0 h1 w htab
def Tryz.laysC172_ren : Go.Shelf.Ren := ⟨fun | 172 => 125 | 244 => 157 | 245 => 158 | 247 => 175 | 279 => 193 | 280 => 194 | 281 => 195 | 282 => 196 | 287 => 208 | 316 => 222 | 171 => 35 | 205 => 223 | 321 => 238 | 322 => 239 | 243 => 76 | 246 => 114 | 283 => 144 | 284 => 145 | 285 => 146 | 286 => 147 | 129 => 184 | 317 => 183 | 318 => 185 | 319 => 186 | 320 => 187 | 337 => 215 | 338 => 216 | n => n, fun | 9 => 9 | 3 => 3 | 75 => 102 | 76 => 103 | 4 => 4 | 5 => 5 | 167 => 223 | 37 => 66 | 0 => 0 | 85 => 161 | 2 => 2 | 168 => 224 | 53 => 171 | 175 => 236 | 46 => 206 | 210 => 248 | 127 => 117 | 145 => 259 | 143 => 257 | 21 => 21 | 171 => 170 | 173 => 174 | 212 => 213 | 51 => 214 | 20 => 20 | 213 => 215 | 232 => 255 | 233 => 256 | 80 => 78 | n => n, fun | 15 => 2 | 16 => 3 | 17 => 1 | 18 => 4 | 19 => 5 | n => n⟩
theorem Tryz.laysC172 : Go.Proofs.LaysC.n172 Tryz.prog Tryz.laysC172_ren := {
  mixed := by kernel_rfl
  f129 := Tryz.func184.trans (congrArg some (by kernel_rfl))
  f171 := Tryz.func35.trans (congrArg some (by kernel_rfl))
  f172 := Tryz.func125.trans (congrArg some (by kernel_rfl))
  f205 := Tryz.func223.trans (congrArg some (by kernel_rfl))
  f243 := Tryz.func76.trans (congrArg some (by kernel_rfl))
  f244 := Tryz.func157.trans (congrArg some (by kernel_rfl))
  f245 := Tryz.func158.trans (congrArg some (by kernel_rfl))
  f246 := Tryz.func114.trans (congrArg some (by kernel_rfl))
  f247 := Tryz.func175.trans (congrArg some (by kernel_rfl))
  f279 := Tryz.func193.trans (congrArg some (by kernel_rfl))
  f280 := Tryz.func194.trans (congrArg some (by kernel_rfl))
  f281 := Tryz.func195.trans (congrArg some (by kernel_rfl))
  f282 := Tryz.func196.trans (congrArg some (by kernel_rfl))
  f283 := Tryz.func144.trans (congrArg some (by kernel_rfl))
  f284 := Tryz.func145.trans (congrArg some (by kernel_rfl))
  f285 := Tryz.func146.trans (congrArg some (by kernel_rfl))
  f286 := Tryz.func147.trans (congrArg some (by kernel_rfl))
  f287 := Tryz.func208.trans (congrArg some (by kernel_rfl))
  f316 := Tryz.func222.trans (congrArg some (by kernel_rfl))
  f317 := Tryz.func183.trans (congrArg some (by kernel_rfl))
  f318 := Tryz.func185.trans (congrArg some (by kernel_rfl))
  f319 := Tryz.func186.trans (congrArg some (by kernel_rfl))
  f320 := Tryz.func187.trans (congrArg some (by kernel_rfl))
  f321 := Tryz.func238.trans (congrArg some (by kernel_rfl))
  f322 := Tryz.func239.trans (congrArg some (by kernel_rfl))
  f337 := Tryz.func215.trans (congrArg some (by kernel_rfl))
  f338 := Tryz.func216.trans (congrArg some (by kernel_rfl))
  t0 := Tryz.underlying0
  a0 := Tryz.isAgg0
  z0 := Tryz.sizeOf0
  v0 := Tryz.zeroValue0
  t2 := Tryz.underlying2
  a2 := Tryz.isAgg2
  z2 := Tryz.sizeOf2
  v2 := Tryz.zeroValue2
  t3 := Tryz.underlying3
  a3 := Tryz.isAgg3
  z3 := Tryz.sizeOf3
  v3 := Tryz.zeroValue3
  t4 := Tryz.underlying4
  a4 := Tryz.isAgg4
  z4 := Tryz.sizeOf4
  v4 := Tryz.zeroValue4
  t5 := Tryz.underlying5
  a5 := Tryz.isAgg5
  z5 := Tryz.sizeOf5
  v5 := Tryz.zeroValue5
  t9 := Tryz.underlying9
  a9 := Tryz.isAgg9
  z9 := Tryz.sizeOf9
  v9 := Tryz.zeroValue9
  t20 := Tryz.underlying20
  a20 := Tryz.isAgg20
  z20 := Tryz.sizeOf20
  v20 := Tryz.zeroValue20
  t21 := Tryz.underlying21
  a21 := Tryz.isAgg21
  z21 := Tryz.sizeOf21
  v21 := Tryz.zeroValue21
  t37 := Tryz.underlying66
  a37 := Tryz.isAgg66
  z37 := Tryz.sizeOf66
  v37 := Tryz.zeroValue66
  t46 := Tryz.underlying206
  a46 := Tryz.isAgg206
  z46 := Tryz.sizeOf206
  v46 := Tryz.zeroValue206
  t51 := Tryz.underlying214
  a51 := Tryz.isAgg214
  z51 := Tryz.sizeOf214
  v51 := Tryz.zeroValue214
  t53 := Tryz.underlying171
  a53 := Tryz.isAgg171
  z53 := Tryz.sizeOf171
  v53 := Tryz.zeroValue171
  t75 := Tryz.underlying102
  a75 := Tryz.isAgg102
  z75 := Tryz.sizeOf102
  v75 := Tryz.zeroValue102
  t76 := Tryz.underlying103
  a76 := Tryz.isAgg103
  z76 := Tryz.sizeOf103
  v76 := Tryz.zeroValue103
  t85 := Tryz.underlying161
  a85 := Tryz.isAgg161
  z85 := Tryz.sizeOf161
  v85 := Tryz.zeroValue161
  t127 := Tryz.underlying117
  a127 := Tryz.isAgg117
  z127 := Tryz.sizeOf117
  v127 := Tryz.zeroValue117
  t143 := Tryz.underlying257
  a143 := Tryz.isAgg257
  z143 := Tryz.sizeOf257
  v143 := Tryz.zeroValue257
  t145 := Tryz.underlying259
  a145 := Tryz.isAgg259
  z145 := Tryz.sizeOf259
  v145 := Tryz.zeroValue259
  t167 := Tryz.underlying223
  a167 := Tryz.isAgg223
  z167 := Tryz.sizeOf223
  v167 := Tryz.zeroValue223
  t168 := Tryz.underlying224
  a168 := Tryz.isAgg224
  z168 := Tryz.sizeOf224
  v168 := Tryz.zeroValue224
  t171 := Tryz.underlying170
  a171 := Tryz.isAgg170
  z171 := Tryz.sizeOf170
  v171 := Tryz.zeroValue170
  t173 := Tryz.underlying174
  a173 := Tryz.isAgg174
  z173 := Tryz.sizeOf174
  v173 := Tryz.zeroValue174
  t175 := Tryz.underlying236
  a175 := Tryz.isAgg236
  z175 := Tryz.sizeOf236
  v175 := Tryz.zeroValue236
  t210 := Tryz.underlying248
  a210 := Tryz.isAgg248
  z210 := Tryz.sizeOf248
  v210 := Tryz.zeroValue248
  t212 := Tryz.underlying213
  a212 := Tryz.isAgg213
  z212 := Tryz.sizeOf213
  v212 := Tryz.zeroValue213
  t213 := Tryz.underlying215
  a213 := Tryz.isAgg215
  z213 := Tryz.sizeOf215
  t232 := Tryz.underlying255
  a232 := Tryz.isAgg255
  z232 := Tryz.sizeOf255
  v232 := Tryz.zeroValue255
  t233 := Tryz.underlying256
  a233 := Tryz.isAgg256
  z233 := Tryz.sizeOf256
  v233 := Tryz.zeroValue256
  g15 := by kernel_rfl
  g16 := by kernel_rfl
  g17 := by kernel_rfl
  g18 := by kernel_rfl
  g19 := by kernel_rfl
  t80 := Tryz.underlying78
  a80 := Tryz.isAgg78
  z80 := Tryz.sizeOf78
  v80 := Tryz.zeroValue78
  i0 := by kernel_rfl
  i2 := by kernel_rfl
  i3 := by kernel_rfl
  i4 := by kernel_rfl
  i5 := by kernel_rfl
  i9 := by kernel_rfl
  i20 := by kernel_rfl
  i21 := by kernel_rfl
  i37 := by kernel_rfl
  i46 := by kernel_rfl
  i51 := by kernel_rfl
  i53 := by kernel_rfl
  i75 := by kernel_rfl
  i76 := by kernel_rfl
  i80 := by kernel_rfl
  i85 := by kernel_rfl
  i127 := by kernel_rfl
  i143 := by kernel_rfl
  i145 := by kernel_rfl
  i167 := by kernel_rfl
  i168 := by kernel_rfl
  i171 := by kernel_rfl
  i173 := by kernel_rfl
  i175 := by kernel_rfl
  i210 := by kernel_rfl
  i212 := by kernel_rfl
  i232 := by kernel_rfl
  i233 := by kernel_rfl
  m15 := by kernel_rfl
  m16 := by kernel_rfl
  m17 := by kernel_rfl
  m18 := by kernel_rfl
  m19 := by kernel_rfl
  c0 := by kernel_rfl
  c2 := by kernel_rfl
  c3 := by kernel_rfl
  c4 := by kernel_rfl
  c5 := by kernel_rfl
  c9 := by kernel_rfl
  c20 := by kernel_rfl
  c21 := by kernel_rfl
  c37 := by kernel_rfl
  c46 := by kernel_rfl
  c51 := by kernel_rfl
  c53 := by kernel_rfl
  c75 := by kernel_rfl
  c76 := by kernel_rfl
  c80 := by kernel_rfl
  c85 := by kernel_rfl
  c127 := by kernel_rfl
  c143 := by kernel_rfl
  c145 := by kernel_rfl
  c167 := by kernel_rfl
  c168 := by kernel_rfl
  c171 := by kernel_rfl
  c173 := by kernel_rfl
  c175 := by kernel_rfl
  c210 := by kernel_rfl
  c212 := by kernel_rfl
  c213 := by kernel_rfl
  c232 := by kernel_rfl
  c233 := by kernel_rfl }
open Go.RowKit in
theorem Tryz.strconv_Atoi_ok (s : ByteArray) (hmax : s.size ≤ 9223372036854775806) (v : Int) (h : Lib.atoiAll s.data.toList = .ok v) (w : World) :
    Calls Tryz.prog 125 #[.string s] w fun e w' => e = .returned (.tuple #[.int .i64 v, .nilIface]) ∧ (w' = w ∨ ∃ t, w' = Lib.bytesWorld w 5 t) := Any.strconv_Atoi_ok Tryz.laysC172 s hmax v h w
open Go.RowKit in
theorem Tryz.strconv_Atoi_syntax_var (s : ByteArray) (hlim : s.size ≤ 281474976710656) (h : synE (Lib.atoiAll s.data.toList) = true) (tp : TypeId) (p : Value) (w : World) (hvar : w.var? Tryz.prog "strconv.ErrSyntax" = some #[.iface tp p]) :
    Calls Tryz.prog 125 #[.string s] w fun e w' => ∃ N, e = .returned (.tuple #[.int .i64 0, .iface 224 (.pointer (some ⟨N, 0, none⟩))]) ∧ w.heap.size ≤ N ∧ w'.heap[N]? = some (.cells #[.string ⟨#[65, 116, 111, 105]⟩, .string s, .iface tp p] 248 (0, 0)) ∧ Below w.heap.size w w' := Any.strconv_Atoi_syntax_var Tryz.laysC172 s hlim (by revert h; cases Lib.atoiAll s.data.toList <;> intro h <;> first | rfl | cases h) tp p w hvar
open Go.RowKit in
theorem Tryz.strconv_Atoi_range_var (s : ByteArray) (hlim : s.size ≤ 281474976710656) (h : Lib.atoiAll s.data.toList = .range) (tp : TypeId) (p : Value) (w : World) (hvar : w.var? Tryz.prog "strconv.ErrRange" = some #[.iface tp p]) :
    Calls Tryz.prog 125 #[.string s] w fun e w' => ∃ N, e = .returned (.tuple #[.int .i64 (Lib.atoiSat s.data.toList), .iface 224 (.pointer (some ⟨N, 0, none⟩))]) ∧ w.heap.size ≤ N ∧ w'.heap[N]? = some (.cells #[.string ⟨#[65, 116, 111, 105]⟩, .string s, .iface tp p] 248 (0, 0)) ∧ Below w.heap.size w w' := Any.strconv_Atoi_range_var Tryz.laysC172 s hlim h tp p w hvar
def Tryz.lays219_ren : Go.Shelf.Ren := ⟨fun | 219 => 136 | 217 => 176 | 225 => 177 | 224 => 178 | 267 => 179 | 266 => 209 | 314 => 210 | n => n, fun | 9 => 9 | 3 => 3 | 4 => 4 | 5 => 5 | 46 => 206 | 146 => 238 | 51 => 214 | n => n, fun | 1 => 0 | n => n⟩
theorem Tryz.lays219 : Go.Proofs.Lays.n219 Tryz.prog Tryz.lays219_ren := {
  mixed := by kernel_rfl
  f217 := Tryz.func176.trans (congrArg some (by kernel_rfl))
  f219 := Tryz.func136.trans (congrArg some (by kernel_rfl))
  f224 := Tryz.func178.trans (congrArg some (by kernel_rfl))
  f225 := Tryz.func177.trans (congrArg some (by kernel_rfl))
  f266 := Tryz.func209.trans (congrArg some (by kernel_rfl))
  f267 := Tryz.func179.trans (congrArg some (by kernel_rfl))
  f314 := Tryz.func210.trans (congrArg some (by kernel_rfl))
  t3 := Tryz.underlying3
  a3 := Tryz.isAgg3
  z3 := Tryz.sizeOf3
  v3 := Tryz.zeroValue3
  t4 := Tryz.underlying4
  a4 := Tryz.isAgg4
  z4 := Tryz.sizeOf4
  v4 := Tryz.zeroValue4
  t5 := Tryz.underlying5
  a5 := Tryz.isAgg5
  z5 := Tryz.sizeOf5
  v5 := Tryz.zeroValue5
  t9 := Tryz.underlying9
  a9 := Tryz.isAgg9
  z9 := Tryz.sizeOf9
  v9 := Tryz.zeroValue9
  t46 := Tryz.underlying206
  a46 := Tryz.isAgg206
  z46 := Tryz.sizeOf206
  v46 := Tryz.zeroValue206
  t51 := Tryz.underlying214
  a51 := Tryz.isAgg214
  z51 := Tryz.sizeOf214
  v51 := Tryz.zeroValue214
  t146 := Tryz.underlying238
  a146 := Tryz.isAgg238
  z146 := Tryz.sizeOf238
  v146 := Tryz.zeroValue238
  g1 := by kernel_rfl }
open Go.RowKit Go.Lib in
theorem Tryz.stringslite_Index_one (s : ByteArray) (c : UInt8) (w : World) :
    Calls Tryz.prog 136 #[.string s, .string ⟨#[c]⟩] w fun e w' => e = .returned (.int .i64 (Lib.indexByte s.data.toList c)) ∧ w' = w := Any.stringslite_Index_one Tryz.lays219 s c w
def Tryz.lays99_ren : Go.Shelf.Ren := ⟨fun | 99 => 126 | 206 => 156 | n => n, fun | 9 => 9 | 4 => 4 | 3 => 3 | n => n, fun | n => n⟩
theorem Tryz.lays99 : Go.Proofs.Lays.n99 Tryz.prog Tryz.lays99_ren := {
  mixed := by kernel_rfl
  f99 := Tryz.func126.trans (congrArg some (by kernel_rfl))
  f206 := Tryz.func156.trans (congrArg some (by kernel_rfl))
  t3 := Tryz.underlying3
  a3 := Tryz.isAgg3
  z3 := Tryz.sizeOf3
  v3 := Tryz.zeroValue3
  t4 := Tryz.underlying4
  a4 := Tryz.isAgg4
  z4 := Tryz.sizeOf4
  v4 := Tryz.zeroValue4
  t9 := Tryz.underlying9
  a9 := Tryz.isAgg9
  z9 := Tryz.sizeOf9
  v9 := Tryz.zeroValue9 }
open Go.RowKit Go.Lib in
theorem Tryz.strings_HasPrefix (s p : ByteArray) (w : World) :
    Calls Tryz.prog 126 #[.string s, .string p] w fun e w' => e = .returned (.bool (Lib.hasPrefix s.data.toList p.data.toList)) ∧ w' = w := Any.strings_HasPrefix Tryz.lays99 s p w
def Tryz.lays153_ren : Go.Shelf.Ren := ⟨fun | 153 => 128 | 152 => 159 | 226 => 160 | 227 => 161 | 228 => 162 | 137 => 197 | 119 => 198 | 224 => 178 | 225 => 177 | 217 => 176 | 266 => 209 | n => n, fun | 9 => 9 | 3 => 3 | 4 => 4 | 5 => 5 | 21 => 21 | 117 => 191 | 116 => 190 | 0 => 0 | 46 => 206 | 124 => 227 | n => n, fun | n => n⟩
theorem Tryz.lays153 : Go.Proofs.Lays.n153 Tryz.prog Tryz.lays153_ren := {
  mixed := by kernel_rfl
  f119 := Tryz.func198.trans (congrArg some (by kernel_rfl))
  f137 := Tryz.func197.trans (congrArg some (by kernel_rfl))
  f152 := Tryz.func159.trans (congrArg some (by kernel_rfl))
  f153 := Tryz.func128.trans (congrArg some (by kernel_rfl))
  f217 := Tryz.func176.trans (congrArg some (by kernel_rfl))
  f224 := Tryz.func178.trans (congrArg some (by kernel_rfl))
  f225 := Tryz.func177.trans (congrArg some (by kernel_rfl))
  f226 := Tryz.func160.trans (congrArg some (by kernel_rfl))
  f227 := Tryz.func161.trans (congrArg some (by kernel_rfl))
  f228 := Tryz.func162.trans (congrArg some (by kernel_rfl))
  f266 := Tryz.func209.trans (congrArg some (by kernel_rfl))
  t0 := Tryz.underlying0
  a0 := Tryz.isAgg0
  z0 := Tryz.sizeOf0
  v0 := Tryz.zeroValue0
  t3 := Tryz.underlying3
  a3 := Tryz.isAgg3
  z3 := Tryz.sizeOf3
  v3 := Tryz.zeroValue3
  t4 := Tryz.underlying4
  a4 := Tryz.isAgg4
  z4 := Tryz.sizeOf4
  v4 := Tryz.zeroValue4
  t5 := Tryz.underlying5
  a5 := Tryz.isAgg5
  z5 := Tryz.sizeOf5
  v5 := Tryz.zeroValue5
  t9 := Tryz.underlying9
  a9 := Tryz.isAgg9
  z9 := Tryz.sizeOf9
  v9 := Tryz.zeroValue9
  t21 := Tryz.underlying21
  a21 := Tryz.isAgg21
  z21 := Tryz.sizeOf21
  v21 := Tryz.zeroValue21
  t46 := Tryz.underlying206
  a46 := Tryz.isAgg206
  z46 := Tryz.sizeOf206
  v46 := Tryz.zeroValue206
  t116 := Tryz.underlying190
  a116 := Tryz.isAgg190
  z116 := Tryz.sizeOf190
  t117 := Tryz.underlying191
  a117 := Tryz.isAgg191
  z117 := Tryz.sizeOf191
  v117 := Tryz.zeroValue191
  t124 := Tryz.underlying227
  a124 := Tryz.isAgg227
  z124 := Tryz.sizeOf227
  v124 := Tryz.zeroValue227 }
open Go.RowKit Go.Lib in
theorem Tryz.strings_IndexAny_one (s chars : ByteArray) (w : World) (h1 : chars.size = 1) (hascii : ∀ (j : Nat) b, chars.data.toList[j]? = some b → b.toNat < 128) :
    Calls Tryz.prog 128 #[.string s, .string chars] w fun e w' => e = .returned (.int .i64 (Lib.indexAny s.data.toList chars.data.toList)) ∧ w' = w := Any.strings_IndexAny_one Tryz.lays153 s chars w h1 hascii
open Go.RowKit Go.Lib in
theorem Tryz.strings_IndexAny_long (hv116 : ∀ w, (zeroValue 190).run Tryz.prog w = .ok (.agg (Array.replicate 256 (.bool false))) w) (s chars : ByteArray) (w : World) (h2 : 2 ≤ chars.size) (h8 : 8 < s.size) (hs : s.size < 4294967281) (hcs : chars.size < 4294967281) (hascii : ∀ (j : Nat) b, chars.data.toList[j]? = some b → b.toNat < 128) :
    Calls Tryz.prog 128 #[.string s, .string chars] w fun e w' => e = .returned (.int .i64 (Lib.indexAny s.data.toList chars.data.toList)) ∧ w' = ((w.alloc (.cells (Lib.setCells chars.data.toList) 190)).alloc (.cells (Lib.setCells chars.data.toList) 190)) := Any.strings_IndexAny_long Tryz.lays153 hv116 (by kernel_rfl) s chars w h2 h8 hs hcs hascii
end Go.Proofs
namespace Go.Proofs.YtladcmfbkiogbaaGreatDoor
open Go.Chi Go.Lib Go.RowKit Go.Sort
structure G38 (M : Mem) : Prop where
  pow : VarM M 1 (pow10Tab.map fun z => Value.int .u64 z)
  syn : ∃ tp p, VarM M 2 [.iface tp p]
  rng : ∃ tp p, VarM M 3 [.iface tp p]
theorem G38.le {M M' : Mem} (h : G38 M) (hm : M.le M') : G38 M' :=
  ⟨h.pow.le hm, h.syn.elim fun tp ⟨p, h⟩ => ⟨tp, p, h.le hm⟩, h.rng.elim fun tp ⟨p, h⟩ => ⟨tp, p, h.le hm⟩⟩
theorem gPow : Tryz.prog.globalNamed "internal/strconv.uint64pow10" = some 1 := by kernel_rfl
theorem gSyn : Tryz.prog.globalNamed "strconv.ErrSyntax" = some 2 := by kernel_rfl
theorem gRng : Tryz.prog.globalNamed "strconv.ErrRange" = some 3 := by kernel_rfl
abbrev bs (l : List UInt8) : ByteArray := ⟨l.toArray⟩
theorem itoa_ok (M : Mem) (L : HL) (n : Nat) (hn : n < 9223372036854775808) (hG : G38 M) : TrQ Tryz.prog 35 [.int .i64 (n : Int)] M L (.string (bs (decDigits n))) :=
  trQ_calls (fun w => Tryz.call35 _ w) fun w hw => by
    refine (Tryz.strconv_Itoa n (by omega) (by omega) w (by
      have := hG.pow.var hw gPow
      simpa [TabIs] using this)).mono fun e w' => ?_
    rintro ⟨rfl, k, os, rfl⟩
    rw [itoa_nonneg]
    exact ⟨rfl, below_regrown w (w.drawn + k) os⟩
def NumRes (o : NumEnd Int) (v : Value) : Prop := match o with
  | .ok n => v = .tuple ⟨[.int .i64 n, .nilIface]⟩
  | _ => ∃ n t p, v = .tuple ⟨[.int .i64 n, .iface t p]⟩
theorem atoi_ok (M : Mem) (L : HL) (s : ByteArray) (hs : s.size < 1000000) (hG : G38 M) : Tr Tryz.prog 125 [.string s] M L (fun v M' L' => M = M' ∧ L' = L ∧ NumRes (atoiAll s.data.toList) v) :=
  tr_calls (fun w => Tryz.call125 _ w) fun w hw => by
    cases h : atoiAll s.data.toList with
    | ok n =>
      refine (Tryz.strconv_Atoi_ok s (by omega) n h w).mono fun e w' => ?_
      rintro ⟨rfl, h | ⟨t, h⟩⟩
      · exact ⟨⟨_, rfl, rfl⟩, h ▸ Below.refl _ _⟩
      · exact ⟨⟨_, rfl, rfl⟩, h ▸ bytesWorld_below _ _ _⟩
    | range =>
      obtain ⟨tp, p, hv⟩ := hG.rng
      refine (Tryz.strconv_Atoi_range_var s (by omega) h tp p w (hv.var hw gRng)).mono fun e w' => ?_
      rintro ⟨N, rfl, _, _, hb⟩
      exact ⟨⟨_, rfl, _, _, _, rfl⟩, hb⟩
    | _ =>
      obtain ⟨tp, p, hv⟩ := hG.syn
      refine (Tryz.strconv_Atoi_syntax_var s (by omega) (by rw [h]; rfl) tp p w (hv.var hw gSyn)).mono fun e w' => ?_
      rintro ⟨N, rfl, _, _, hb⟩
      exact ⟨⟨_, rfl, _, _, _, rfl⟩, hb⟩
theorem runeCount_ok (M : Mem) (L : HL) (s : ByteArray) (hs : s.size < 1000000) : TrQ Tryz.prog 121 [.string s] M L (.int .i64 (runeCount s)) :=
  trQ_calls (fun w => Tryz.call121 _ w) fun w _ => by
    refine (Tryz.utf8_RuneCountInString s w (by omega)).mono fun e w' => ?_
    rintro ⟨rfl, p, rfl⟩
    exact ⟨rfl, below_iter _ _ _⟩
theorem hasPrefix_ok (M : Mem) (L : HL) (s p : ByteArray) : TrQ Tryz.prog 126 [.string s, .string p] M L (.bool (hasPrefix s.data.toList p.data.toList)) :=
  trQ_calls (fun w => Tryz.call126 _ w) fun w _ => by
    refine (Tryz.strings_HasPrefix s p w).mono fun e w' => ?_
    rintro ⟨rfl, rfl⟩
    exact ⟨rfl, Below.refl _ _⟩
theorem cutPrefix_ok (M : Mem) (L : HL) (s p : ByteArray) : TrQ Tryz.prog 90 [.string s, .string p] M L (.tuple ⟨[.string (bs (trimPrefix s.data.toList p.data.toList)), .bool (hasPrefix s.data.toList p.data.toList)]⟩) :=
  trQ_calls (fun w => Tryz.call90 _ w) fun w _ => by
    refine (Tryz.strings_CutPrefix s p w).mono fun e w' => ?_
    rintro ⟨rfl, rfl⟩
    exact ⟨rfl, Below.refl _ _⟩
end Go.Proofs.YtladcmfbkiogbaaGreatDoor
namespace Go.Proofs.YtladcmfbkiogbaaGreatDoor
open Go.Chi
set_option maxRecDepth 10000
theorem runL_must {C : Cx} {n : Nat} {ops : Array Oper} {k : List Item} {ds : List Deferred} {σ : Env} {δ : Den} {M : Mem} {L : HL} {d : Nat} {ty : TypeId} {pos : String} {aft : Array Edge} {l : List Oper} {args : Array Operand} {tys : Array TypeId} {e : Int}
    (ha : evs σ δ [] args.toList = some [.int .i64 e]) (hd : Nat.blt d n = true) (hn : lkd δ d = none) (hu : unNamed δ d = true)
    (h0 : e = 0 → RunL Tryz.prog C n ops l k ds ((d, .tuple ⟨[]⟩) :: σ) δ M L) (h1 : e ≠ 0 → RunX Tryz.prog C n (.panicking (pan e)) ds σ M L) :
    RunL Tryz.prog C n ops (⟨some d, .call ⟨.value (.func 141), args, tys⟩, ty, pos, aft, none⟩ :: l) k ds σ δ M L := by
  refine runL_callE ha (must_ok _ _ e) hd hn hu ?_ ?_
  · rintro v _ _ ⟨rfl, rfl, hv⟩
    by_cases he : e = 0
    · rw [if_pos he, Ending.returned.injEq] at hv; subst hv; exact h0 he
    · rw [if_neg he] at hv; cases hv
  · rintro v _ _ ⟨rfl, rfl, hv⟩
    by_cases he : e = 0
    · rw [if_pos he] at hv; cases hv
    · rw [if_neg he, Ending.panicked.injEq] at hv; subst hv; exact h1 he
def frontR (s : ByteArray) : Except Int (Nat × Nat) :=
  if s.size = 0 then .error 6 else
  if byte s 0 = 100 then (if (textR (rest1 s) 1024).2.2 ≠ 0 then .error (textR (rest1 s) 1024).2.2 else .ok ((1 + (textR (rest1 s) 1024).2.1).toNat, 0)) else
  if byte s 0 = 97 then (if (textR (rest1 s) 32).2.2 ≠ 0 then .error (textR (rest1 s) 32).2.2 else if namedR (textR (rest1 s) 32).1 = false then .error 7 else .ok ((1 + (textR (rest1 s) 32).2.1).toNat, 0)) else
  if byte s 0 = 114 then (if (numR (rest1 s)).2.2 ≠ 0 then .error (numR (rest1 s)).2.2 else if 32 < (numR (rest1 s)).1 then .error 5 else .ok ((1 + (numR (rest1 s)).2.1).toNat, (numR (rest1 s)).1.toNat)) else
  if byte s 0 = 104 then .ok (1, 1) else
  if byte s 0 = 109 then .ok (1, 2) else
  if byte s 0 = 115 then .ok (1, 3) else .error 7
def frontK (r : Except Int (Nat × Nat)) (M : Mem) (L : HL) (en : Ending) (M' : Mem) (L' : HL) : Prop := M = M' ∧ L = L' ∧ match r with | .ok x => en = .returned (.tuple ⟨[.int .i64 (x.1 : Int), .int .i64 (x.2 : Int)]⟩) | .error e => en = .panicked (pan e)
theorem textR_len (s : ByteArray) (most : Nat) (h : (textR s most).2.2 = 0) : ∃ n : Nat, (textR s most).2.1 = n ∧ 1 ≤ n ∧ n ≤ s.size := by
  have hv := numR_pos s
  unfold textR at h ⊢
  split at h
  · rename_i h1; exact absurd h h1
  · rename_i h0
    obtain ⟨n, hn, h1, h2⟩ := numR_len s (by simpa using h0)
    rw [if_neg h0]
    split at h
    · cases h
    · rename_i h3
      rw [if_neg h3]
      split at h
      · cases h
      · rename_i h4
        rw [if_neg h4]
        exact ⟨((numR s).2.1 + (numR s).1).toNat, show (numR s).2.1 + (numR s).1 = _ by omega, by omega, by omega⟩
theorem rest1_size {s : ByteArray} : (rest1 s).size = s.size - 1 := by simp [rest1]
theorem byte_eq {s : ByteArray} {b : UInt8} {c : Int} (h : byte s 0 = (b.toNat : Int)) {t : Bool} (hb : (((b.toNat : Int) == c)) = t) : (if t then byte s 0 = c else byte s 0 ≠ c) := by
  subst hb
  split <;> rename_i h1 <;> rw [h] <;> simpa using h1
theorem one_wrap {n : Nat} (h : n < 4611686018427387904) : IntKind.i64.wrap (1 + (n : Int)) = ((1 + n : Nat) : Int) := by
  rw [show (1 : Int) + (n : Int) = ((1 + n : Nat) : Int) by omega, wrap64_nat (by omega)]
set_option maxRecDepth 10000 in
set_option maxHeartbeats 8000000 in
theorem front_ok (M : Mem) (L : HL) (s : ByteArray) (hs : s.size < 4611686018427387904) : TrE Tryz.prog 180 [.string s] M L (frontK (frontR s) M L) := by
  refine TrE.intro 73 Tryz.func180 rfl rfl Tryz.call180 rfl ?_
  intro C hC hro
  repeat (first | refine zz ?_ | refine zx fun _ => ?_)
  refine run_cond rfl (fun h => ?_) (fun h => ?_)
  · repeat (first | refine zz ?_ | refine zx fun _ => ?_)
    rw [empty_beq, decide_eq_true_eq] at h
    refine runL_must rfl rfl rfl rfl (fun h => by cases h) (fun _ => ?_)
    exact runX_pan hC (fun _ h => h) ⟨rfl, rfl, by rw [frontR, if_pos h]⟩
  rw [empty_beq, decide_eq_false_iff_not] at h
  have hp : 0 < s.size := by omega
  obtain ⟨b0, hb0, hb0'⟩ := byte_at hp
  have hr : (rest1 s).size < 4611686018427387904 := by rw [rest1_size]; omega
  repeat (first | refine zz ?_ | refine zx fun _ => ?_ | refine runL_q (qt_strIndex (n := 0) tok rfl rfl rfl (fun _ => hb0)) rfl rfl rfl ?_)
  refine run_cond rfl (fun h1 => ?_) (fun h1 => ?_)
  · have hb1 : byte s 0 = 100 := byte_eq hb0' h1
    repeat (first | refine zz ?_ | refine zx fun _ => ?_ | refine runL_q (qt_strLo (n := 1) tok rfl rfl rfl (fun _ => hp)) rfl rfl rfl ?_ | refine runL_q (qt_callF rfl (fun _ => readText_ok _ _ (rest1 s) 1024 hr (by decide))) rfl rfl rfl ?_)
    refine runL_must rfl rfl rfl rfl (fun h2 => ?_) (fun h2 => ?_)
    · obtain ⟨m, hm, hm1, hm2⟩ := textR_len _ _ h2
      repeat (first | refine zz ?_ | refine zx fun _ => ?_)
      refine run_retX hro ?_
      refine runX_ret hC (rs := [.tmp 2, .tmp 3]) rfl (resT rfl (resT rfl resN)) (fun _ h => h) ⟨rfl, rfl, ?_⟩
      rw [frontR, if_neg h, if_pos hb1, if_neg (by simp [h2]), hm, one_wrap (by omega), show (1 + (m : Int)).toNat = 1 + m by omega]
      rfl
    · exact runX_pan hC (fun _ h => h) ⟨rfl, rfl, by rw [frontR, if_neg h, if_pos hb1, if_pos h2]⟩
  have hb1 : byte s 0 ≠ 100 := byte_eq hb0' h1
  repeat (first | refine zz ?_ | refine zx fun _ => ?_)
  refine run_cond rfl (fun h1 => ?_) (fun h1 => ?_)
  · have hb2 : byte s 0 = 97 := byte_eq hb0' h1
    repeat (first | refine zz ?_ | refine zx fun _ => ?_ | refine runL_q (qt_strLo (n := 1) tok rfl rfl rfl (fun _ => hp)) rfl rfl rfl ?_ | refine runL_q (qt_callF rfl (fun _ => readText_ok _ _ (rest1 s) 32 hr (by decide))) rfl rfl rfl ?_)
    refine runL_must rfl rfl rfl rfl (fun h2 => ?_) (fun h2 => ?_)
    · obtain ⟨m, hm, hm1, hm2⟩ := textR_len _ _ h2
      repeat (first | refine zz ?_ | refine zx fun _ => ?_ | refine runL_q (qt_callF rfl (fun _ => named_ok _ _ _)) rfl rfl rfl ?_)
      refine run_cond rfl (fun h3 => ?_) (fun h3 => ?_)
      · have h4 : namedR (textR (rest1 s) 32).1 = false := by simpa using h3
        repeat (first | refine zz ?_ | refine zx fun _ => ?_)
        refine runL_must rfl rfl rfl rfl (fun h => by cases h) (fun _ => ?_)
        exact runX_pan hC (fun _ h => h) ⟨rfl, rfl, by rw [frontR, if_neg h, if_neg hb1, if_pos hb2, if_neg (by simp [h2]), if_pos h4]⟩
      · have h4 : ¬ namedR (textR (rest1 s) 32).1 = false := by simpa using h3
        repeat (first | refine zz ?_ | refine zx fun _ => ?_)
        refine run_retX hro ?_
        refine runX_ret hC (rs := [.tmp 2, .tmp 3]) rfl (resT rfl (resT rfl resN)) (fun _ h => h) ⟨rfl, rfl, ?_⟩
        rw [frontR, if_neg h, if_neg hb1, if_pos hb2, if_neg (by simp [h2]), if_neg h4, hm, one_wrap (by omega), show (1 + (m : Int)).toNat = 1 + m by omega]
        rfl
    · exact runX_pan hC (fun _ h => h) ⟨rfl, rfl, by rw [frontR, if_neg h, if_neg hb1, if_pos hb2, if_pos h2]⟩
  have hb2 : byte s 0 ≠ 97 := byte_eq hb0' h1
  repeat (first | refine zz ?_ | refine zx fun _ => ?_)
  refine run_cond rfl (fun h1 => ?_) (fun h1 => ?_)
  · have hb3 : byte s 0 = 114 := byte_eq hb0' h1
    repeat (first | refine zz ?_ | refine zx fun _ => ?_ | refine runL_q (qt_strLo (n := 1) tok rfl rfl rfl (fun _ => hp)) rfl rfl rfl ?_ | refine runL_q (qt_callF rfl (fun _ => readNum_ok _ _ (rest1 s))) rfl rfl rfl ?_)
    refine runL_must rfl rfl rfl rfl (fun h2 => ?_) (fun h2 => ?_)
    · obtain ⟨m, hm, hm1, hm2⟩ := numR_len _ h2
      have hv0 := numR_pos (rest1 s)
      repeat (first | refine zz ?_ | refine zx fun _ => ?_)
      refine run_cond rfl (fun h3 => ?_) (fun h3 => ?_)
      · have h4 : 32 < (numR (rest1 s)).1 := by simpa using h3
        repeat (first | refine zz ?_ | refine zx fun _ => ?_)
        refine runL_must rfl rfl rfl rfl (fun h => by cases h) (fun _ => ?_)
        exact runX_pan hC (fun _ h => h) ⟨rfl, rfl, by rw [frontR, if_neg h, if_neg hb1, if_neg hb2, if_pos hb3, if_neg (by simp [h2]), if_pos h4]⟩
      · have h4 : ¬ 32 < (numR (rest1 s)).1 := by simpa using h3
        repeat (first | refine zz ?_ | refine zx fun _ => ?_)
        refine run_retX hro ?_
        refine runX_ret hC (rs := [.tmp 2, .tmp 3]) rfl (resT rfl (resT rfl resN)) (fun _ h => h) ⟨rfl, rfl, ?_⟩
        obtain ⟨v, hv⟩ : ∃ v : Nat, (numR (rest1 s)).1 = v := ⟨(numR (rest1 s)).1.toNat, by omega⟩
        rw [frontR, if_neg h, if_neg hb1, if_neg hb2, if_pos hb3, if_neg (by simp [h2]), if_neg h4, hm, hv, one_wrap (by omega), wrap64_nat (by omega), show (1 + (m : Int)).toNat = 1 + m by omega, Int.toNat_natCast]
        rfl
    · exact runX_pan hC (fun _ h => h) ⟨rfl, rfl, by rw [frontR, if_neg h, if_neg hb1, if_neg hb2, if_pos hb3, if_pos h2]⟩
  have hb3 : byte s 0 ≠ 114 := byte_eq hb0' h1
  repeat (first | refine zz ?_ | refine zx fun _ => ?_)
  refine run_cond rfl (fun h1 => ?_) (fun h1 => ?_)
  · have hb4 : byte s 0 = 104 := byte_eq hb0' h1
    repeat (first | refine zz ?_ | refine zx fun _ => ?_)
    refine run_retX hro ?_
    refine runX_ret hC (rs := [.tmp 2, .tmp 3]) rfl (resT rfl (resT rfl resN)) (fun _ h => h) ⟨rfl, rfl, ?_⟩
    rw [frontR, if_neg h, if_neg hb1, if_neg hb2, if_neg hb3, if_pos hb4]; rfl
  have hb4 : byte s 0 ≠ 104 := byte_eq hb0' h1
  repeat (first | refine zz ?_ | refine zx fun _ => ?_)
  refine run_cond rfl (fun h1 => ?_) (fun h1 => ?_)
  · have hb5 : byte s 0 = 109 := byte_eq hb0' h1
    repeat (first | refine zz ?_ | refine zx fun _ => ?_)
    refine run_retX hro ?_
    refine runX_ret hC (rs := [.tmp 2, .tmp 3]) rfl (resT rfl (resT rfl resN)) (fun _ h => h) ⟨rfl, rfl, ?_⟩
    rw [frontR, if_neg h, if_neg hb1, if_neg hb2, if_neg hb3, if_neg hb4, if_pos hb5]; rfl
  have hb5 : byte s 0 ≠ 109 := byte_eq hb0' h1
  repeat (first | refine zz ?_ | refine zx fun _ => ?_)
  refine run_cond rfl (fun h1 => ?_) (fun h1 => ?_)
  · have hb6 : byte s 0 = 115 := byte_eq hb0' h1
    repeat (first | refine zz ?_ | refine zx fun _ => ?_)
    refine run_retX hro ?_
    refine runX_ret hC (rs := [.tmp 2, .tmp 3]) rfl (resT rfl (resT rfl resN)) (fun _ h => h) ⟨rfl, rfl, ?_⟩
    rw [frontR, if_neg h, if_neg hb1, if_neg hb2, if_neg hb3, if_neg hb4, if_neg hb5, if_pos hb6]; rfl
  have hb6 : byte s 0 ≠ 115 := byte_eq hb0' h1
  repeat (first | refine zz ?_ | refine zx fun _ => ?_)
  refine runL_must rfl rfl rfl rfl (fun h => by cases h) (fun _ => ?_)
  exact runX_pan hC (fun _ h => h) ⟨rfl, rfl, by rw [frontR, if_neg h, if_neg hb1, if_neg hb2, if_neg hb3, if_neg hb4, if_neg hb5, if_neg hb6]⟩
end Go.Proofs.YtladcmfbkiogbaaGreatDoor
namespace Go.Proofs.YtladcmfbkiogbaaGreatDoor
open Go.Chi
set_option maxRecDepth 10000
theorem frontR_len {s : ByteArray} {n p : Nat} (h : frontR s = .ok (n, p)) : 1 ≤ n ∧ n ≤ s.size ∧ p ≤ 32 := by
  have hr := rest1_size (s := s)
  unfold frontR at h
  split at h
  · cases h
  rename_i h0
  split at h
  · split at h
    · cases h
    · rename_i h2
      obtain ⟨m, hm, _, _⟩ := textR_len (rest1 s) 1024 (by simpa using h2)
      simp only [Except.ok.injEq, Prod.mk.injEq] at h
      omega
  split at h
  · split at h
    · cases h
    · split at h
      · cases h
      · rename_i h2 _
        obtain ⟨m, hm, _, _⟩ := textR_len (rest1 s) 32 (by simpa using h2)
        simp only [Except.ok.injEq, Prod.mk.injEq] at h
        omega
  split at h
  · split at h
    · cases h
    · split at h
      · cases h
      · rename_i h2 _
        obtain ⟨m, hm, _, _⟩ := numR_len (rest1 s) (by simpa using h2)
        simp only [Except.ok.injEq, Prod.mk.injEq] at h
        have := numR_pos (rest1 s)
        omega
  split at h
  · simp only [Except.ok.injEq, Prod.mk.injEq] at h; omega
  split at h
  · simp only [Except.ok.injEq, Prod.mk.injEq] at h; omega
  split at h
  · simp only [Except.ok.injEq, Prod.mk.injEq] at h; omega
  · cases h
def iter (f : Nat → Except Int Nat) : Nat → Nat → Except Int Nat
  | 0, x => .ok x
  | i + 1, x => match f x with
    | .error e => .error e
    | .ok y => iter f i y
def walkR (s : ByteArray) : Nat → Nat → Except Int Nat
  | 0, _ => .error 60
  | k + 1, a => match frontR (s.extract a s.size) with
    | .error e => .error e
    | .ok x => iter (walkR s k) x.2 (a + x.1)
theorem iter_len {f : Nat → Except Int Nat} {N : Nat} (hf : ∀ x y, x ≤ N → f x = .ok y → y ≤ N) : ∀ i x y, x ≤ N → iter f i x = .ok y → y ≤ N
  | 0, x, y, hx, h => by rw [iter, Except.ok.injEq] at h; omega
  | i + 1, x, y, hx, h => by
    rw [iter] at h
    split at h
    · cases h
    · rename_i z hz
      exact iter_len hf i z y (hf _ _ hx hz) h
theorem walkR_len (s : ByteArray) : ∀ k a y, a ≤ s.size → walkR s k a = .ok y → y ≤ s.size
  | 0, a, y, _, h => by cases h
  | k + 1, a, y, ha, h => by
    rw [walkR] at h
    split at h
    · cases h
    · rename_i x hx
      have := frontR_len (n := x.1) (p := x.2) hx
      have hz : (s.extract a s.size).size = s.size - a := by simp
      exact iter_len (walkR_len s k) _ _ _ (by omega) h
set_option maxRecDepth 10000 in
set_option maxHeartbeats 4000000 in
theorem walk_ok (M : Mem) (s : ByteArray) (hs : s.size < 4611686018427387904) : ∀ (k : Nat), k ≤ 16 → ∀ (L : HL) (a : Nat), a ≤ s.size → TrE Tryz.prog 139 [.string s, .int .i64 (a : Int), .int .i64 ((17 - k : Nat) : Int), fv 140] M L (walkK (walkR s k a) M L) := by
  intro k
  induction k with
  | zero =>
    intro _ L a ha
    refine TrE.intro 41 Tryz.func139 rfl rfl Tryz.call139 rfl ?_
    intro C hC hro
    repeat (first | refine zz ?_ | refine zx fun _ => ?_)
    refine run_cond rfl (fun h => ?_) (fun h => by cases h)
    repeat (first | refine zz ?_ | refine zx fun _ => ?_)
    refine runL_must rfl rfl rfl rfl (fun h => by cases h) (fun _ => ?_)
    exact runX_pan hC (fun _ h => h) ⟨rfl, rfl, rfl⟩
  | succ k ih =>
    intro hk L a ha
    refine TrE.intro 41 Tryz.func139 rfl rfl Tryz.call139 rfl ?_
    intro C hC hro
    repeat (first | refine zz ?_ | refine zx fun _ => ?_)
    refine run_cond rfl (fun h => ?_) (fun h => ?_)
    · exfalso
      have : (16 : Int) < ((17 - (k + 1) : Nat) : Int) := by simpa using h
      omega
    have hz : (s.extract a s.size).size = s.size - a := by simp
    repeat (first | refine zz ?_ | refine zx fun _ => ?_ | refine runL_q (qt_strLo tok rfl rfl rfl (fun _ => ha)) rfl rfl rfl ?_)
    refine runL_callE rfl (front_ok _ _ _ (by omega)) rfl rfl rfl ?_ ?_
    rotate_left
    · rintro ch _ _ ⟨rfl, rfl, hv⟩
      cases hf : frontR (s.extract a s.size) with
      | ok x => rw [hf] at hv; cases hv
      | error e =>
        rw [hf] at hv
        simp only [Ending.panicked.injEq] at hv
        subst hv
        exact runX_pan hC (fun _ h => h) ⟨rfl, rfl, by rw [walkR, hf]⟩
    rintro v _ _ ⟨rfl, rfl, hv⟩
    cases hf : frontR (s.extract a s.size) with
    | error e => rw [hf] at hv; cases hv
    | ok x =>
      rw [hf] at hv
      simp only [Ending.returned.injEq] at hv
      subst hv
      have hx := frontR_len (n := x.1) (p := x.2) hf
      have hw : walkR s (k + 1) a = iter (walkR s k) x.2 (a + x.1) := by rw [walkR, hf]
      have e1 : IntKind.i64.wrap ((a : Int) + (x.1 : Int)) = ((a + x.1 : Nat) : Int) := by
        rw [show (a : Int) + (x.1 : Int) = ((a + x.1 : Nat) : Int) by omega, wrap64_nat (by omega)]
      repeat (first | refine zz ?_ | refine zx fun _ => ?_)
      refine run_loopN (fun i σ1 M1 L1 => i ≤ x.2 ∧ ∃ y, y ≤ s.size ∧ iter (walkR s k) (x.2 - i) y = walkR s (k + 1) a ∧ σ1 = [(0, .string s), (1, .int .i64 (a : Int)), (2, .int .i64 ((17 - (k + 1) : Nat) : Int)), (3, fv 140), (11, .int .i64 (y : Int)), (25, .int .i64 (x.2 : Int)), (26, .int .i64 (i : Int))] ∧ M = M1 ∧ L = L1) x.2 [(0, .string s), (1, .int .i64 (a : Int)), (2, .int .i64 ((17 - (k + 1) : Nat) : Int)), (3, fv 140), (11, .int .i64 ((a + x.1 : Nat) : Int)), (25, .int .i64 (x.2 : Int)), (26, .int .i64 ((0 : Nat) : Int))] ?_ ⟨Nat.zero_le _, a + x.1, by omega, hw.symm, rfl, rfl, rfl⟩ (fun j _ _ _ h => h.1) ?_
      · exact ⟨rfl, rfl, rfl, rfl, by rw [← e1]; rfl, rfl, rfl, trivial⟩
      rintro i _ _ _ ⟨hi, y, hy, hit, rfl, rfl, rfl⟩ hnext
      repeat (first | refine zz ?_ | refine zx fun _ => ?_)
      refine run_cond rfl (fun h5 => ?_) (fun h5 => ?_)
      · have hik : i < x.2 := by simpa using h5
        rw [show x.2 - i = (x.2 - (i + 1)) + 1 by omega, iter] at hit
        repeat (first | refine zz ?_ | refine zx fun _ => ?_)
        refine runL_as 31 (.int .i64 ((17 - k : Nat) : Int)) rfl (by rw [wrap64_succ (by omega), show 17 - (k + 1) + 1 = 17 - k by omega]) ?_
        repeat (first | refine zz ?_ | refine zx fun _ => ?_)
        refine runL_callE rfl (ih (by omega) _ _ hy) rfl rfl rfl ?_ ?_
        rotate_left
        · rintro ch _ _ ⟨rfl, rfl, hv⟩
          cases hg : walkR s k y with
          | ok z => rw [hg] at hv; cases hv
          | error e =>
            rw [hg] at hv hit
            simp only [Ending.panicked.injEq] at hv
            subst hv
            exact runX_pan hC (fun _ h => h) ⟨rfl, rfl, by rw [← hit]⟩
        rintro v _ _ ⟨rfl, rfl, hv⟩
        cases hg : walkR s k y with
        | error e => rw [hg] at hv; cases hv
        | ok z =>
          rw [hg] at hv hit
          simp only [Ending.returned.injEq] at hv
          subst hv
          have hzz := walkR_len s k y z hy hg
          repeat (first | refine zz ?_ | refine zx fun _ => ?_)
          exact run_sub' (hnext _ _ _ ⟨hik, z, hzz, hit, rfl, rfl, rfl⟩) ⟨rfl, rfl, rfl, rfl, rfl, rfl, lk_succ rfl (by omega), trivial⟩
      · have hik : i = x.2 := by simp at h5; omega
        subst hik
        rw [Nat.sub_self, iter] at hit
        repeat (first | refine zz ?_ | refine zx fun _ => ?_ | (refine runL_op (st_callV rfl rfl (fun _ => tell_ok _ _ _ _ _)) rfl rfl rfl ?_; rintro _ _ _ ⟨rfl, rfl, rfl⟩))
        refine run_retX hro ?_
        exact runX_ret hC (rs := [.tmp 8]) rfl (resT rfl resN) (fun _ h => h) ⟨rfl, rfl, by rw [← hit]; rfl⟩
def checkR (s : ByteArray) : Int := if (readR (walkR s 16 0)).2 = 0 ∧ (readR (walkR s 16 0)).1 ≠ (s.size : Int) then 7 else (readR (walkR s 16 0)).2
theorem check_ok (M : Mem) (L : HL) (s : ByteArray) (hs : s.size < 4611686018427387904) : TrQ Tryz.prog 66 [.string s] M L (.int .i64 (checkR s)) := by
  refine Tr.intro 19 Tryz.func66 rfl rfl Tryz.call66 rfl ?_; intro C hC hro
  repeat (first | refine zz ?_ | refine zx fun _ => ?_ | refine runL_q (qt_callF rfl (fun _ => read_ok _ _ s (walkR s 16 0) (fun L => walk_ok _ s hs 16 (by omega) L 0 (Nat.zero_le _)))) rfl rfl rfl ?_)
  refine run_cond rfl (fun h => ?_) (fun h => ?_)
  · have h1 : (readR (walkR s 16 0)).2 = 0 ∧ (readR (walkR s 16 0)).1 ≠ (s.size : Int) := by simpa using h
    repeat (first | refine zz ?_ | refine zx fun _ => ?_)
    exact run_ret hC (rs := [.tmp 2]) rfl (resT rfl resN) (fun _ h => h) ⟨by rw [checkR, if_pos h1]; rfl, rfl, rfl⟩
  · have h1 : ¬ ((readR (walkR s 16 0)).2 = 0 ∧ (readR (walkR s 16 0)).1 ≠ (s.size : Int)) := by simpa using h
    repeat (first | refine zz ?_ | refine zx fun _ => ?_)
    exact run_ret hC (rs := [.tmp 2]) rfl (resT rfl resN) (fun _ h => h) ⟨by rw [checkR, if_neg h1]; rfl, rfl, rfl⟩
end Go.Proofs.YtladcmfbkiogbaaGreatDoor
namespace Go.Proofs.YtladcmfbkiogbaaGreatDoor
open Go.Chi
set_option maxRecDepth 10000
theorem u8_nat {n : Nat} (h : n < 256) : IntKind.u8.wrap (n : Int) = n := by
  simp only [IntKind.wrap, IntKind.signed, IntKind.bits]
  simp
  omega
theorem bytesI_one (x : Int) : (bytesI [x]).size = 1 := rfl
theorem app_size (a b : ByteArray) : (a ++ b).size = a.size + b.size := ByteArray.size_append
def digN (v : Nat) : ByteArray := if v = 0 then ⟨#[]⟩ else digN (v / 256) ++ bytesI [((v % 256 : Nat) : Int)]
termination_by v
decreasing_by omega
theorem digN_zero : digN 0 = ⟨#[]⟩ := by rw [digN, if_pos rfl]
theorem digN_size : ∀ (k v : Nat), v < 256 ^ k → (digN v).size ≤ k
  | 0, v, h => by
    have : v = 0 := by simp at h; omega
    subst this
    rw [digN_zero]; exact Nat.le_refl _
  | k + 1, v, h => by
    by_cases h0 : v = 0
    · subst h0; rw [digN_zero]; exact Nat.zero_le _
    · rw [digN, if_neg h0, app_size, bytesI_one]
      have := digN_size k (v / 256) (by rw [Nat.pow_succ] at h; omega)
      omega
theorem digN_len {v : Nat} (h : v < 18446744073709551616) : (digN v).size ≤ 8 := digN_size 8 v (by simpa using h)
theorem digN_first : ∀ v : Nat, v ≠ 0 → ∃ b : UInt8, (digN v)[0]? = some b ∧ b ≠ 0 := by
  intro v
  induction v using Nat.strongRecOn with
  | _ v ih =>
    intro h0
    rw [digN, if_neg h0]
    by_cases h1 : v / 256 = 0
    · rw [h1, digN_zero]
      have hv : v % 256 = v := by omega
      rw [hv]
      refine ⟨UInt8.ofNat v, by simp [bytesI]; rfl, fun e => ?_⟩
      have := congrArg UInt8.toNat e
      simp at this
      omega
    · obtain ⟨b, hb, hb0⟩ := ih (v / 256) (by omega) h1
      refine ⟨b, ?_, hb0⟩
      have hlt : 0 < (digN (v / 256)).size := by
        apply Classical.byContradiction
        intro hn
        rw [getElem?_neg (digN (v / 256)) 0 hn] at hb
        cases hb
      rw [getElem?_pos (digN (v / 256)) 0 hlt] at hb
      rw [getElem?_pos (digN (v / 256) ++ bytesI [((v % 256 : Nat) : Int)]) 0 (by rw [app_size]; omega), ByteArray.getElem_append_left hlt]
      exact hb
def numB (v : Nat) : ByteArray := if v < 248 then bytesI [IntKind.u8.wrap (v : Int)] else bytesI [IntKind.u8.wrap (IntKind.i64.wrap (247 + ((digN v).size : Int)))] ++ digN v
theorem numB_of {v n : Nat} {s : ByteArray} (h : numB v = s.extract 0 n) (hn : 2 ≤ n) (hs : n ≤ s.size) : 247 < v ∧ byte s 1 ≠ 0 := by
  have hsz := congrArg ByteArray.size h
  have hz : (s.extract 0 n).size = n := by simp; omega
  rw [hz] at hsz
  by_cases h0 : v < 248
  · rw [numB, if_pos h0, bytesI_one] at hsz
    omega
  · refine ⟨by omega, ?_⟩
    obtain ⟨b, hb, hb0⟩ := digN_first v (by omega)
    have hd : 0 < (digN v).size := by
      apply Classical.byContradiction
      intro hn
      rw [getElem?_neg (digN v) 0 hn] at hb
      cases hb
    rw [getElem?_pos (digN v) 0 hd, Option.some.injEq] at hb
    have h1 : (s.extract 0 n)[1]? = some b := by
      rw [← h, numB, if_neg h0, getElem?_pos (_ ++ digN v) 1 (by rw [app_size, bytesI_one]; omega), ByteArray.getElem_append_right (by rw [bytesI_one]; exact Nat.le_refl _)]
      simp only [bytesI_one, Nat.sub_self]
      rw [hb]
    have h2 : s[1]? = some b := by
      rw [getElem?_pos (s.extract 0 n) 1 (by omega)] at h1
      rw [getElem?_pos s 1 (by omega)]
      rw [← h1, ByteArray.getElem_extract]
    rw [byte, h2]
    intro e
    apply hb0
    have : b.toNat = 0 := by simpa using e
    exact UInt8.toNat_inj.1 this
end Go.Proofs.YtladcmfbkiogbaaGreatDoor
namespace Go.Proofs.YtladcmfbkiogbaaGreatDoor
open Go.Chi
set_option maxRecDepth 10000
def refV (s : ByteArray) : Nat → Int
  | 0 => 0
  | i + 1 => IntKind.u64.wrap (IntKind.u64.wrap (refV s i * 256) + IntKind.u64.wrap (byte s (i + 1)))
theorem u64_wrap (x : Int) : IntKind.u64.wrap x = x % 18446744073709551616 := by
  simp only [IntKind.wrap, IntKind.signed, IntKind.bits]
  simp
theorem or_add (x b : Int) (hb0 : 0 ≤ b) (hb : b < 256) : ior .u64 (ishl .u64 x 8) b = IntKind.u64.wrap (IntKind.u64.wrap (x * 256) + b) := by
  have e1 : ishl .u64 x 8 = IntKind.u64.wrap (x * 256) := by simp [ishl, IntKind.bits]
  rw [e1, u64_wrap (x * 256)]
  obtain ⟨q, hq⟩ : ∃ q : Nat, (x * 256) % 18446744073709551616 = ((2 ^ 8 * q : Nat) : Int) := ⟨(x % 72057594037927936).toNat, by omega⟩
  have hlt : (2 ^ 8 * q : Nat) < 18446744073709551616 := by omega
  obtain ⟨c, rfl⟩ : ∃ c : Nat, b = c := ⟨b.toNat, by omega⟩
  rw [hq, ior]
  congr 1
  have ho := Nat.two_pow_add_eq_or_of_lt (i := 8) (b := c) (by omega) q
  have h1 : (BitVec.ofInt 64 ((2 ^ 8 * q : Nat) : Int)).toNat = 2 ^ 8 * q := by
    rw [BitVec.toNat_ofInt]; omega
  have h2 : (BitVec.ofInt 64 (c : Int)).toNat = c := by
    rw [BitVec.toNat_ofInt]; omega
  show (((BitVec.ofInt 64 ((2 ^ 8 * q : Nat) : Int) ||| BitVec.ofInt 64 (c : Int)).toNat : Nat) : Int) = _
  rw [BitVec.toNat_or, h1, h2, ← ho]
  omega
theorem byte_rest (s : ByteArray) (i : Nat) : byte (rest1 s) i = byte s (i + 1) := by
  unfold byte rest1
  by_cases h : i + 1 < s.size
  · rw [getElem?_pos s _ h, getElem?_pos _ _ (by simp; omega), ByteArray.getElem_extract]
    simp [Nat.add_comm]
  · rw [getElem?_neg s _ h, getElem?_neg _ _ (by simp; omega)]
theorem refV_eq (s : ByteArray) : ∀ i, refV s i = numV (rest1 s) i
  | 0 => rfl
  | i + 1 => by
    have hb := byte_pos s (i + 1)
    have hw : IntKind.u64.wrap (byte s (i + 1)) = byte s (i + 1) := by rw [u64_wrap]; omega
    rw [refV, numV, byte_rest, hw, or_add _ _ hb.1 hb.2, refV_eq s i]
theorem refV_pos (s : ByteArray) (i : Nat) : 0 ≤ refV s i ∧ refV s i < 18446744073709551616 := by
  cases i with
  | zero => exact ⟨Int.le_refl _, show (0 : Int) < 18446744073709551616 by decide⟩
  | succ i => exact u64_pos .u64 rfl _
def refK (s : ByteArray) : Nat := (byte s 0 - 247).toNat
def refNum (s : ByteArray) : Int × Int × Int :=
  if s.size = 0 then (0, 0, 6) else
  if byte s 0 < 248 then (byte s 0, 1, 0) else
  if s.size < refK s + 1 then (0, 0, 6) else
  if numB (refV s (refK s)).toNat ≠ s.extract 0 (refK s + 1) then (0, 0, 7) else (refV s (refK s), ((refK s + 1 : Nat) : Int), 0)
theorem refNum_imp {s : ByteArray} (h : (refNum s).2.2 = 0) : numR s = refNum s := by
  have hb := byte_pos s 0
  unfold refNum at h ⊢
  split at h
  · cases h
  rename_i h0
  rw [if_neg h0]
  split at h
  · rename_i h1
    rw [numR, if_neg h0, if_pos (by omega), if_pos h1]
  rename_i h1
  rw [if_neg h1]
  split at h
  · cases h
  rename_i h2
  rw [if_neg h2]
  split at h
  · cases h
  rename_i h3
  rw [if_neg h3]
  have h3' : numB (refV s (refK s)).toNat = s.extract 0 (refK s + 1) := by simpa using h3
  have hk : (refK s : Int) = byte s 0 - 247 := by unfold refK; omega
  obtain ⟨h4, h5⟩ := numB_of h3' (by omega) (by omega)
  have hr := rest1_size (s := s)
  rw [numR, if_neg h0, if_neg (by omega), if_neg (by omega)]
  have hv := refV_eq s (refK s)
  have hz : (byte s 0 - 247).toNat = refK s := rfl
  rw [hz, ← hv, if_neg (by
    rintro (h6 | h6)
    · rw [byte_rest] at h6; exact h5 h6
    · omega)]
  congr 2
  omega
def refText (s : ByteArray) (most : Nat) : ByteArray × Int × Int :=
  if (refNum s).2.2 ≠ 0 then (⟨#[]⟩, 0, (refNum s).2.2) else
  if (most : Int) < (refNum s).1 then (⟨#[]⟩, 0, 5) else
  if (s.size : Int) - (refNum s).2.1 < (refNum s).1 then (⟨#[]⟩, 0, 6) else
  (s.extract (refNum s).2.1.toNat ((refNum s).2.1 + (refNum s).1).toNat, (refNum s).2.1 + (refNum s).1, 0)
theorem refText_imp {s : ByteArray} {most : Nat} (h : (refText s most).2.2 = 0) : textR s most = refText s most := by
  have h0 : (refNum s).2.2 = 0 := by
    apply Classical.byContradiction
    intro h0
    rw [refText, if_pos h0] at h
    exact h0 h
  rw [textR, refNum_imp h0, refText]
end Go.Proofs.YtladcmfbkiogbaaGreatDoor
namespace Go.Proofs.YtladcmfbkiogbaaGreatDoor
open Go.Chi
set_option maxRecDepth 10000
def nameB (c : Int) : Bool := (((decide (c ≥ 97) && decide (c ≤ 122)) || (decide (c ≥ 48) && decide (c ≤ 57))) || c == 47 || c == 46) || c == 45
def nameR (s : ByteArray) : Bool := ((List.range s.size).all fun i => nameB (byte s i)) && decide (s.size ≠ 0)
theorem abc_all : ∀ n : Fin 256, nameB ((n.val : Nat) : Int) = true → n.val < 128 ∧ inAbc ((n.val : Nat) : Int) = true := by decide +kernel
theorem nameB_imp {b : UInt8} (h : nameB (b.toNat : Int) = true) : b.toNat < 128 ∧ inAbc (b.toNat : Int) = true := abc_all ⟨b.toNat, b.toNat_lt⟩ h
theorem nameAt {s : ByteArray} (h : ((List.range s.size).all fun i => nameB (byte s i)) = true) : ∀ f p, namedAt s f p = true
  | 0, _ => rfl
  | f + 1, p => by
    rw [namedAt]
    split
    · rename_i hp
      have hb := List.all_eq_true.1 h p (List.mem_range.2 hp)
      have hx : byte s p = ((s[p]'hp).toNat : Int) := by rw [byte, getElem?_pos s p hp]; rfl
      rw [hx] at hb
      obtain ⟨h1, h2⟩ := nameB_imp hb
      rw [decode_ascii s p hp h1, h2]
      exact nameAt h f _
    · rfl
theorem nameR_imp {s : ByteArray} (h : nameR s = true) : namedR s = true := by
  rw [nameR, Bool.and_eq_true] at h
  rw [namedR, nameAt h.1, h.2]; rfl
def headR (s : ByteArray) : Int × Int × Int :=
  if s.size = 0 then (0, 0, 6) else
  if byte s 0 = 100 then (IntKind.i64.wrap (1 + (refText (rest1 s) 1024).2.1), 0, (refText (rest1 s) 1024).2.2) else
  if byte s 0 = 97 then (if (refText (rest1 s) 32).2.2 = 0 ∧ nameR (refText (rest1 s) 32).1 = false then (0, 0, 7) else (IntKind.i64.wrap (1 + (refText (rest1 s) 32).2.1), 0, (refText (rest1 s) 32).2.2)) else
  if byte s 0 = 114 then (if (refNum (rest1 s)).2.2 = 0 ∧ 32 < (refNum (rest1 s)).1 then (0, 0, 5) else (IntKind.i64.wrap (1 + (refNum (rest1 s)).2.1), IntKind.i64.wrap (refNum (rest1 s)).1, (refNum (rest1 s)).2.2)) else
  if byte s 0 = 104 then (1, 1, 0) else
  if byte s 0 = 109 then (1, 2, 0) else
  if byte s 0 = 115 then (1, 3, 0) else (0, 0, 7)
theorem headR_imp {s : ByteArray} (hs : s.size < 4611686018427387904) (h : (headR s).2.2 = 0) : ∃ n p : Nat, headR s = ((n : Int), (p : Int), 0) ∧ frontR s = .ok (n, p) := by
  have hr := rest1_size (s := s)
  unfold headR at h ⊢
  unfold frontR
  split at h
  · cases h
  rename_i h0
  rw [if_neg h0, if_neg h0]
  split at h
  · rename_i h1
    rw [if_pos h1, if_pos h1]
    have hi := refText_imp h
    obtain ⟨m, hm, _, _⟩ := textR_len (rest1 s) 1024 (by rw [hi]; exact h)
    rw [hi] at hm ⊢
    rw [h, hm, one_wrap (by omega)]
    exact ⟨1 + m, 0, rfl, by simp; omega⟩
  rename_i h1
  rw [if_neg h1, if_neg h1]
  split at h
  · rename_i h2
    rw [if_pos h2, if_pos h2]
    split at h
    · cases h
    rename_i h3
    have hi := refText_imp h
    obtain ⟨m, hm, _, _⟩ := textR_len (rest1 s) 32 (by rw [hi]; exact h)
    have h4 : nameR (refText (rest1 s) 32).1 = true := by
      cases e : nameR (refText (rest1 s) 32).1 with
      | true => rfl
      | false => exact absurd ⟨h, e⟩ h3
    have h5 := nameR_imp h4
    rw [if_neg h3]
    rw [hi] at hm ⊢
    rw [h5, h, hm, one_wrap (by omega)]
    exact ⟨1 + m, 0, rfl, by simp; omega⟩
  rename_i h2
  rw [if_neg h2, if_neg h2]
  split at h
  · rename_i h3
    rw [if_pos h3, if_pos h3]
    split at h
    · cases h
    rename_i h4
    have hi := refNum_imp h
    obtain ⟨m, hm, _, _⟩ := numR_len (rest1 s) (by rw [hi]; exact h)
    have hv0 := numR_pos (rest1 s)
    rw [if_neg h4]
    rw [hi] at hm hv0 ⊢
    have h5 : ¬ 32 < (refNum (rest1 s)).1 := fun h5 => h4 ⟨h, h5⟩
    obtain ⟨v, hv⟩ : ∃ v : Nat, (refNum (rest1 s)).1 = v := ⟨(refNum (rest1 s)).1.toNat, by omega⟩
    rw [h, hm, hv, one_wrap (by omega), wrap64_nat (by omega)]
    rw [hv] at h5
    exact ⟨1 + m, v, rfl, by simp [h5]; omega⟩
  rename_i h3
  rw [if_neg h3, if_neg h3]
  split at h
  · rename_i h4; rw [if_pos h4, if_pos h4]; exact ⟨1, 1, rfl, rfl⟩
  rename_i h4
  rw [if_neg h4, if_neg h4]
  split at h
  · rename_i h5; rw [if_pos h5, if_pos h5]; exact ⟨1, 2, rfl, rfl⟩
  rename_i h5
  rw [if_neg h5, if_neg h5]
  split at h
  · rename_i h6; rw [if_pos h6, if_pos h6]; exact ⟨1, 3, rfl, rfl⟩
  · cases h
end Go.Proofs.YtladcmfbkiogbaaGreatDoor
namespace Go.Proofs.YtladcmfbkiogbaaGreatDoor
open Go.Chi
set_option maxRecDepth 10000
def rloop (f : ByteArray → Int × Int) (s : ByteArray) : Nat → Int → Int → Int × Int
  | 0, n, e => (n, e)
  | i + 1, n, e => if e ≠ 0 then (n, e) else rloop f s i (IntKind.i64.wrap (n + (f (s.extract n.toNat s.size)).1)) (f (s.extract n.toNat s.size)).2
def finR (r : Int × Int) : Int × Int := if r.2 ≠ 0 then (0, r.2) else (r.1, 0)
def refRead : Nat → ByteArray → Int × Int
  | 0, _ => (0, 60)
  | k + 1, s => finR (rloop (refRead k) s (headR s).2.1.toNat (headR s).1 (headR s).2.2)
theorem rloop_err (f : ByteArray → Int × Int) (s : ByteArray) {e : Int} (he : e ≠ 0) : ∀ i n, rloop f s i n e = (n, e)
  | 0, _ => rfl
  | i + 1, n => by rw [rloop, if_pos he]
theorem ext_ext (w : ByteArray) {a n : Nat} (_ha : a ≤ w.size) (_hn : a + n ≤ w.size) : (w.extract a w.size).extract n (w.extract a w.size).size = w.extract (a + n) w.size := by
  have hz : (w.extract a w.size).size = w.size - a := by simp
  rw [hz]
  apply ByteArray.ext
  apply Array.ext'
  simp only [ByteArray.data_extract, Array.toList_extract, List.extract_eq_take_drop]
  have hl : w.data.toList.length = w.size := by simp
  generalize w.data.toList = l at *
  rw [← hl] at _ha _hn ⊢
  rw [List.take_of_length_le (l := l.drop a) (by simp), List.drop_drop, Nat.sub_sub]
theorem ext_all (s : ByteArray) : s.extract 0 s.size = s := by
  apply ByteArray.ext
  simp
end Go.Proofs.YtladcmfbkiogbaaGreatDoor
namespace Go.Proofs.YtladcmfbkiogbaaGreatDoor
open Go.Chi
def rawV (s : ByteArray) : Nat → Nat
  | 0 => 0
  | i + 1 => rawV s i * 256 + (byte s (i + 1)).toNat
theorem rawV_lt (s : ByteArray) : ∀ i, rawV s i < 256 ^ i
  | 0 => show (0 : Nat) < 1 by decide
  | i + 1 => by
    have := rawV_lt s i
    have hb := byte_pos s (i + 1)
    rw [rawV, Nat.pow_succ]
    omega
theorem refV_raw (s : ByteArray) : ∀ i, i ≤ 8 → refV s i = (rawV s i : Int)
  | 0, _ => rfl
  | i + 1, h => by
    have ih := refV_raw s i (by omega)
    have hb := byte_pos s (i + 1)
    have hlt := rawV_lt s i
    have h7 : 256 ^ i ≤ 256 ^ 7 := Nat.pow_le_pow_right (by decide) (by omega)
    have h7' : rawV s i < 72057594037927936 := by
      have : (256 : Nat) ^ 7 = 72057594037927936 := by decide
      omega
    rw [refV, ih, rawV, u64_wrap, u64_wrap, u64_wrap]
    omega
theorem raw_one (s : ByteArray) : rawV s 1 = (byte s 1).toNat := by simp [rawV]
theorem raw_pos {s : ByteArray} (h : byte s 1 ≠ 0) : ∀ i, rawV s (i + 1) ≠ 0
  | 0 => by
    have hb := byte_pos s 1
    show rawV s 1 ≠ 0
    rw [raw_one]
    omega
  | i + 1 => by
    have := raw_pos h i
    rw [rawV]
    omega
theorem ext_snoc (s : ByteArray) {i : Nat} (h : i + 1 < s.size) : s.extract 1 (i + 2) = s.extract 1 (i + 1) ++ bytesI [byte s (i + 1)] := by
  have hb : bytesI [byte s (i + 1)] = ⟨#[s[i + 1]'h]⟩ := by
    have hx : byte s (i + 1) = ((s[i + 1]'h).toNat : Int) := by rw [byte, getElem?_pos s (i + 1) h]; rfl
    rw [hx]
    simp [bytesI]
    rfl
  rw [hb]
  apply ByteArray.ext
  apply Array.ext'
  simp only [ByteArray.data_append, ByteArray.data_extract, Array.toList_append, Array.toList_extract, List.extract_eq_take_drop]
  have hl : s.data.toList.length = s.size := by simp
  have hg : (s[i + 1]'h) = s.data.toList[i + 1]'(by omega) := rfl
  rw [hg]
  have h1 : i + 2 - 1 = i + 1 := by omega
  have h2 : i + 1 - 1 = i := by omega
  rw [h1, h2, List.take_add_one, List.getElem?_drop, show 1 + i = i + 1 by omega, List.getElem?_eq_getElem (by omega)]
  rfl
theorem dig_raw {s : ByteArray} (h : byte s 1 ≠ 0) : ∀ i, i + 1 < s.size → digN (rawV s (i + 1)) = s.extract 1 (i + 2)
  | 0, hs => by
    have hb := byte_pos s 1
    have h0 : rawV s 1 ≠ 0 := raw_pos h 0
    have hd : digN (rawV s 1) = digN (rawV s 1 / 256) ++ bytesI [((rawV s 1 % 256 : Nat) : Int)] := by rw [digN, if_neg h0]
    rw [hd, ext_snoc s hs]
    have e1 : rawV s 1 / 256 = 0 := by rw [raw_one]; omega
    have e2 : ((rawV s 1 % 256 : Nat) : Int) = byte s 1 := by rw [raw_one]; omega
    rw [e1, e2, digN_zero]
    congr 1
    apply ByteArray.ext
    simp
  | i + 1, hs => by
    have ih := dig_raw h i (by omega)
    have hb := byte_pos s (i + 2)
    have h0 : rawV s (i + 2) ≠ 0 := raw_pos h (i + 1)
    have hd : digN (rawV s (i + 2)) = digN (rawV s (i + 2) / 256) ++ bytesI [((rawV s (i + 2) % 256 : Nat) : Int)] := by rw [digN, if_neg h0]
    have e0 : rawV s (i + 2) = rawV s (i + 1) * 256 + (byte s (i + 2)).toNat := rfl
    have e1 : rawV s (i + 2) / 256 = rawV s (i + 1) := by omega
    have e2 : ((rawV s (i + 2) % 256 : Nat) : Int) = byte s (i + 2) := by omega
    rw [show i + 1 + 1 = i + 2 by omega, hd, e1, e2, ih, ext_snoc s hs]
theorem ext_head (s : ByteArray) {n : Nat} (h : 0 < s.size) (hn : 1 ≤ n) : s.extract 0 n = bytesI [byte s 0] ++ s.extract 1 n := by
  have hb : bytesI [byte s 0] = ⟨#[s[0]'h]⟩ := by
    have hx : byte s 0 = ((s[0]'h).toNat : Int) := by rw [byte, getElem?_pos s 0 h]; rfl
    rw [hx]
    simp [bytesI]
    rfl
  rw [hb]
  apply ByteArray.ext
  apply Array.ext'
  simp only [ByteArray.data_append, ByteArray.data_extract, Array.toList_append, Array.toList_extract, List.extract_eq_take_drop]
  have hl : s.data.toList.length = s.size := by simp
  have hg : s.data.toList[0]? = some (s[0]'h) := by rw [List.getElem?_eq_getElem (by omega)]; rfl
  generalize (s[0]'h) = y at hg ⊢
  cases hd : s.data.toList with
  | nil => rw [hd] at hl; simp at hl; omega
  | cons x l =>
    rw [hd] at hg
    simp at hg
    obtain ⟨m, rfl⟩ : ∃ m, n = m + 1 := ⟨n - 1, by omega⟩
    simp [hg]
theorem refNum_eq (s : ByteArray) : refNum s = numR s := by
  by_cases he : (refNum s).2.2 = 0
  · exact (refNum_imp he).symm
  have hb := byte_pos s 0
  have hr := rest1_size (s := s)
  unfold refNum at he ⊢
  unfold numR
  by_cases h0 : s.size = 0
  · rw [if_pos h0, if_pos h0]
  rw [if_neg h0] at he ⊢
  rw [if_neg h0]
  by_cases h1 : byte s 0 < 248
  · rw [if_pos h1] at he; exact absurd rfl he
  rw [if_neg h1] at he ⊢
  rw [if_neg (show ¬ byte s 0 ≤ 247 by omega)]
  have hk : (refK s : Int) = byte s 0 - 247 := by unfold refK; omega
  by_cases h2 : s.size < refK s + 1
  · rw [if_pos h2, if_pos (show ((rest1 s).size : Int) < byte s 0 - 247 by omega)]
  rw [if_neg h2] at he ⊢
  rw [if_neg (show ¬ ((rest1 s).size : Int) < byte s 0 - 247 by omega)]
  by_cases h3 : numB (refV s (refK s)).toNat ≠ s.extract 0 (refK s + 1)
  · rw [if_pos h3]
    have hz : (byte s 0 - 247).toNat = refK s := rfl
    rw [hz, ← refV_eq s (refK s), byte_rest]
    by_cases h4 : byte s (0 + 1) = 0 ∨ refV s (refK s) ≤ 247
    · rw [if_pos h4]
    · exfalso
      apply h3
      have h5 : byte s 1 ≠ 0 := fun e => h4 (.inl e)
      have h6 : ¬ refV s (refK s) ≤ 247 := fun e => h4 (.inr e)
      have hk8 : refK s ≤ 8 := by omega
      have hraw := refV_raw s (refK s) hk8
      obtain ⟨m, hm⟩ : ∃ m, refK s = m + 1 := ⟨refK s - 1, by omega⟩
      have hd := dig_raw h5 m (by omega)
      rw [hraw, Int.toNat_natCast, numB, if_neg (by omega), hm, hd, show m + 1 + 1 = m + 2 by omega, ext_head s (n := m + 2) (by omega) (by omega)]
      congr 2
      have hsz : (s.extract 1 (m + 2)).size = m + 1 := by simp; omega
      rw [hsz]
      have e1 : IntKind.i64.wrap (247 + ((m + 1 : Nat) : Int)) = ((248 + m : Nat) : Int) := by
        rw [show (247 : Int) + ((m + 1 : Nat) : Int) = ((248 + m : Nat) : Int) by omega, wrap64_nat (by omega)]
      rw [e1, u8_nat (by omega)]
      congr 1
      omega
  · rw [if_neg h3] at he
    exact absurd rfl he
theorem refText_eq (s : ByteArray) (most : Nat) : refText s most = textR s most := by
  rw [refText, textR, refNum_eq]
theorem abc_all' : ∀ n : Fin 128, inAbc ((n.val : Nat) : Int) = true → nameB ((n.val : Nat) : Int) = true := by decide +kernel
theorem named_imp {s : ByteArray} : ∀ f p, s.size < p + f → namedAt s f p = true → ∀ i, p ≤ i → i < s.size → nameB (byte s i) = true
  | 0, p, hf, _, i, hi, hs => by omega
  | f + 1, p, hf, h, i, hi, hs => by
    have hp : p < s.size := by omega
    rw [namedAt, if_pos hp, Bool.and_eq_true] at h
    have hlow : (s[p]'hp).toNat < 128 := by
      apply Classical.byContradiction
      intro hn
      have := (decode_high s p hp (by omega)).1
      have h1 := h.1
      rw [inAbc, decide_eq_true_eq, runeIx, if_neg (by omega)] at h1
      omega
    rw [decode_ascii s p hp hlow] at h
    by_cases e : i = p
    · subst e
      have hx : byte s i = ((s[i]'hp).toNat : Int) := by rw [byte, getElem?_pos s i hp]; rfl
      rw [hx]
      exact abc_all' ⟨_, hlow⟩ h.1
    · exact named_imp f (p + 1) (by omega) h.2 i (by omega) hs
theorem name_eq (s : ByteArray) : nameR s = namedR s := by
  rw [Bool.eq_iff_iff]
  constructor
  · exact nameR_imp
  · intro h
    rw [namedR, Bool.and_eq_true] at h
    rw [nameR, h.2, Bool.and_true, List.all_eq_true]
    intro i hi
    exact named_imp _ 0 (by omega) h.1 i (Nat.zero_le _) (List.mem_range.1 hi)
end Go.Proofs.YtladcmfbkiogbaaGreatDoor
namespace Go.Proofs.YtladcmfbkiogbaaGreatDoor
open Go.Chi
theorem ba_ext {a b : ByteArray} (h : a.data.toList = b.data.toList) : a = b := ByteArray.ext (Array.ext' h)
theorem ba_app (a b : ByteArray) : (a ++ b).data.toList = a.data.toList ++ b.data.toList := by
  simp [ByteArray.data_append]
theorem ba_extract (a : ByteArray) (i j : Nat) : (a.extract i j).data.toList = (a.data.toList.take j).drop i := by
  simp [ByteArray.data_extract, List.extract_eq_take_drop, List.drop_take]
theorem ba_len (a : ByteArray) : a.data.toList.length = a.size := by simp
theorem ext_left (a b : ByteArray) : (a ++ b).extract 0 a.size = a := by
  apply ba_ext
  rw [ba_extract, ba_app, ← ba_len, List.take_left' rfl, List.drop_zero]
theorem ext_right (a b : ByteArray) : (a ++ b).extract a.size (a ++ b).size = b := by
  apply ba_ext
  rw [ba_extract, ← ba_len, ← ba_len, ba_app, List.take_of_length_le (Nat.le_refl _), List.drop_left' rfl]
theorem ext_split (s : ByteArray) {n : Nat} (_h : n ≤ s.size) : s = s.extract 0 n ++ s.extract n s.size := by
  apply ba_ext
  rw [ba_app, ba_extract, ba_extract, List.drop_zero, ← ba_len, List.take_of_length_le (l := s.data.toList) (Nat.le_refl _), List.take_append_drop]
theorem app_assoc (a b c : ByteArray) : a ++ b ++ c = a ++ (b ++ c) := by
  apply ba_ext
  simp only [ba_app, List.append_assoc]
theorem app_nil (a : ByteArray) : a ++ ⟨#[]⟩ = a := by
  apply ba_ext
  rw [ba_app]
  simp
theorem nil_app (a : ByteArray) : (⟨#[]⟩ : ByteArray) ++ a = a := by
  apply ba_ext
  rw [ba_app]
  simp
theorem byte_left {a b : ByteArray} {i : Nat} (h : i < a.size) : byte (a ++ b) i = byte a i := by
  unfold byte
  rw [getElem?_pos (a ++ b) i (by rw [app_size]; omega), getElem?_pos a i h, ByteArray.getElem_append_left h]
theorem byte_right (a b : ByteArray) (i : Nat) : byte (a ++ b) (a.size + i) = byte b i := by
  unfold byte
  by_cases h : i < b.size
  · rw [getElem?_pos (a ++ b) _ (by rw [app_size]; omega), getElem?_pos b i h, ByteArray.getElem_append_right (by omega)]
    simp
  · rw [getElem?_neg (a ++ b) _ (by rw [app_size]; omega), getElem?_neg b i h]
theorem byte_one (x : Int) (h0 : 0 ≤ x) (h : x < 256) : byte (bytesI [x]) 0 = x := by
  have e : (bytesI [x])[0]? = some (UInt8.ofNat x.toNat) := rfl
  unfold byte
  rw [e]
  simp
  omega
theorem ext_one {s : ByteArray} (h : 0 < s.size) : s.extract 0 1 = bytesI [byte s 0] := by
  have e : byte s 0 = ((s[0]'h).toNat : Int) := by unfold byte; rw [getElem?_pos s 0 h]; rfl
  apply ba_ext
  rw [ba_extract, List.drop_zero, e]
  have hl : 0 < s.data.toList.length := by rw [ba_len]; exact h
  have hg : (s[0]'h) = s.data.toList[0]'hl := rfl
  rw [hg]
  obtain ⟨b, l, hbl⟩ : ∃ b l, s.data.toList = b :: l := by
    cases hs : s.data.toList with
    | nil => rw [hs] at hl; simp at hl
    | cons b l => exact ⟨b, l, rfl⟩
  have hb : s.data.toList[0]'hl = b := by simp only [hbl, List.getElem_cons_zero]
  rw [hb, hbl]
  show [b] = [UInt8.ofNat ((b.toNat : Int)).toNat]
  simp
theorem raw_dig : ∀ (v : Nat) (x : Int) (rest : ByteArray), rawV (bytesI [x] ++ (digN v ++ rest)) (digN v).size = v := by
  intro v
  induction v using Nat.strongRecOn with
  | _ v ih =>
    intro x rest
    by_cases h0 : v = 0
    · subst h0
      rw [digN_zero]
      rfl
    · have hd : digN v = digN (v / 256) ++ bytesI [((v % 256 : Nat) : Int)] := by rw [digN, if_neg h0]
      have hs : (digN v).size = (digN (v / 256)).size + 1 := by rw [hd, app_size, bytesI_one]
      rw [hs, hd, rawV, app_assoc, ih (v / 256) (by omega) x (bytesI [((v % 256 : Nat) : Int)] ++ rest)]
      have e1 : (digN (v / 256)).size + 1 = (bytesI [x]).size + ((digN (v / 256)).size + 0) := by rw [bytesI_one]; omega
      rw [e1, byte_right, byte_right, byte_left (by rw [bytesI_one]; omega), byte_one _ (by omega) (by omega)]
      omega
theorem numB_size {v : Nat} (h : v < 18446744073709551616) : 1 ≤ (numB v).size ∧ (numB v).size ≤ 9 := by
  have := digN_len h
  unfold numB
  split
  · rw [bytesI_one]; omega
  · rw [app_size, bytesI_one]; omega
theorem numB_big {v : Nat} (h : ¬ v < 248) (hv : v < 18446744073709551616) : numB v = bytesI [((247 + (digN v).size : Nat) : Int)] ++ digN v ∧ 1 ≤ (digN v).size ∧ (digN v).size ≤ 8 := by
  have h8 := digN_len hv
  have h1 : 1 ≤ (digN v).size := by
    rw [digN, if_neg (by omega), app_size, bytesI_one]
    omega
  refine ⟨?_, h1, h8⟩
  rw [numB, if_neg h]
  congr 3
  rw [show (247 : Int) + ((digN v).size : Int) = ((247 + (digN v).size : Nat) : Int) by omega, wrap64_nat (by omega), u8_nat (by omega)]
theorem num_read {v : Nat} (hv : v < 18446744073709551616) (rest : ByteArray) : numR (numB v ++ rest) = ((v : Int), ((numB v).size : Int), 0) := by
  rw [← refNum_eq]
  by_cases h : v < 248
  · have hB : numB v = bytesI [(v : Int)] := by rw [numB, if_pos h, u8_nat (by omega)]
    have h0 : byte (numB v ++ rest) 0 = v := by rw [hB, byte_left (by rw [bytesI_one]; omega), byte_one _ (by omega) (by omega)]
    unfold refNum
    rw [if_neg (by rw [app_size, hB, bytesI_one]; omega), if_pos (by rw [h0]; omega), h0, hB, bytesI_one]
    rfl
  · obtain ⟨hB, h1, h8⟩ := numB_big h hv
    have h0 : byte (numB v ++ rest) 0 = ((247 + (digN v).size : Nat) : Int) := by
      rw [hB, app_assoc, byte_left (by rw [bytesI_one]; omega), byte_one _ (by omega) (by omega)]
    have hk : refK (numB v ++ rest) = (digN v).size := by
      unfold refK
      rw [h0]
      omega
    have hsz : (numB v).size = (digN v).size + 1 := by rw [hB, app_size, bytesI_one]; omega
    have hr : refV (numB v ++ rest) (digN v).size = (v : Int) := by
      rw [refV_raw _ _ h8, hB, app_assoc, raw_dig]
    unfold refNum
    rw [if_neg (by rw [app_size]; omega), if_neg (by rw [h0]; omega), hk, if_neg (by rw [app_size]; omega), hr, Int.toNat_natCast, ← hsz, ext_left, if_neg (by simp)]
theorem num_back {s : ByteArray} (h : (numR s).2.2 = 0) : ∃ v : Nat, v < 18446744073709551616 ∧ numR s = ((v : Int), ((numB v).size : Int), 0) ∧ s = numB v ++ s.extract (numB v).size s.size := by
  rw [← refNum_eq] at h ⊢
  have hb := byte_pos s 0
  unfold refNum at h ⊢
  split at h
  · cases h
  rename_i h0
  rw [if_neg h0]
  split at h
  · rename_i h1
    rw [if_pos h1]
    have hB : numB (byte s 0).toNat = bytesI [byte s 0] := by
      rw [numB, if_pos (by omega), u8_nat (by omega), Int.toNat_of_nonneg hb.1]
    refine ⟨(byte s 0).toNat, by omega, ?_, ?_⟩
    · rw [hB, bytesI_one, Int.toNat_of_nonneg hb.1]; rfl
    · rw [hB, bytesI_one, ← ext_one (by omega)]
      exact ext_split s (by omega)
  rename_i h1
  rw [if_neg h1]
  split at h
  · cases h
  rename_i h2
  rw [if_neg h2]
  split at h
  · cases h
  rename_i h3
  rw [if_neg h3]
  have hv := refV_pos s (refK s)
  have h3' : numB (refV s (refK s)).toNat = s.extract 0 (refK s + 1) := by simpa using h3
  have hsz : (numB (refV s (refK s)).toNat).size = refK s + 1 := by rw [h3']; simp; omega
  refine ⟨(refV s (refK s)).toNat, by omega, ?_, ?_⟩
  · rw [hsz, Int.toNat_of_nonneg hv.1]
  · rw [hsz, h3']
    exact ext_split s (by omega)
def textB (t : ByteArray) : ByteArray := numB t.size ++ t
theorem ext_mid (a b c : ByteArray) : (a ++ (b ++ c)).extract a.size (a.size + b.size) = b := by
  apply ba_ext
  rw [ba_extract, ba_app, ba_app, ← ba_len, ← ba_len, ← List.append_assoc, List.take_left' (by rw [List.length_append]), List.drop_left' rfl]
theorem text_read {t : ByteArray} {most : Nat} (h : t.size ≤ most) (hm : most < 4611686018427387904) (rest : ByteArray) : textR (textB t ++ rest) most = (t, ((textB t).size : Int), 0) := by
  have hn := num_read (v := t.size) (by omega) (t ++ rest)
  have hT : textB t ++ rest = numB t.size ++ (t ++ rest) := by rw [textB, app_assoc]
  have hz : (textB t).size = (numB t.size).size + t.size := app_size _ _
  unfold textR
  rw [hT, hn]
  simp only [ne_eq, not_true_eq_false, if_false]
  rw [if_neg (by omega), if_neg (by rw [app_size, app_size]; omega)]
  rw [Int.toNat_natCast, show (((numB t.size).size : Int) + (t.size : Int)).toNat = (numB t.size).size + t.size by omega, ext_mid, hz]
  congr 2
theorem text_back {s : ByteArray} {most : Nat} (h : (textR s most).2.2 = 0) : ∃ t : ByteArray, t.size ≤ most ∧ textR s most = (t, ((textB t).size : Int), 0) ∧ s = textB t ++ s.extract (textB t).size s.size := by
  unfold textR at h ⊢
  split at h
  · rename_i h1; exact absurd h h1
  rename_i h1
  have h1 : (numR s).2.2 = 0 := by simpa using h1
  obtain ⟨v, hv, hn, hs⟩ := num_back h1
  rw [hn] at h ⊢
  simp only [ne_eq, not_true_eq_false, if_false] at h ⊢
  split at h
  · cases h
  rename_i h2
  rw [if_neg h2]
  split at h
  · cases h
  rename_i h3
  rw [if_neg h3]
  have hsz := congrArg ByteArray.size hs
  rw [app_size] at hsz
  obtain ⟨r, hr⟩ : ∃ r, r = s.extract (numB v).size s.size := ⟨_, rfl⟩
  rw [← hr] at hs hsz
  have hrv : v ≤ r.size := by omega
  have hr2 := ext_split r hrv
  obtain ⟨t, ht⟩ : ∃ t, t = r.extract 0 v := ⟨_, rfl⟩
  have htz : t.size = v := by rw [ht]; simp; omega
  have hT : textB t = numB v ++ t := by rw [textB, htz]
  have hTz : (textB t).size = (numB v).size + v := by rw [hT, app_size, htz]
  have hall : s = textB t ++ r.extract v r.size := by
    rw [hT, app_assoc, ht, ← hr2]; exact hs
  refine ⟨t, by omega, ?_, ?_⟩
  · rw [Int.toNat_natCast, show (((numB v).size : Int) + (v : Int)).toNat = (numB v).size + v by omega, hTz]
    have : s.extract (numB v).size ((numB v).size + v) = t := by
      have e := ext_mid (numB v) t (r.extract v r.size)
      rw [htz] at e
      rw [← e, ← app_assoc, ← hT, ← hall]
    rw [this]
    congr 2
  · have e := ext_right (textB t) (r.extract v r.size)
    rw [← hall] at e
    rw [e]
    exact hall
end Go.Proofs.YtladcmfbkiogbaaGreatDoor
namespace Go.Proofs.YtladcmfbkiogbaaGreatDoor
open Go.Chi
theorem head_eq (s : ByteArray) (hs : s.size < 4611686018427387904) : match frontR s with | .ok x => headR s = ((x.1 : Int), (x.2 : Int), 0) | .error e => (headR s).2.2 = e ∧ e ≠ 0 := by
  by_cases he : (headR s).2.2 = 0
  · obtain ⟨n, p, h1, h2⟩ := headR_imp hs he
    rw [h2]; exact h1
  · have hr := rest1_size (s := s)
    unfold headR at he ⊢
    unfold frontR
    by_cases h0 : s.size = 0
    · rw [if_pos h0, if_pos h0]; exact ⟨rfl, by decide⟩
    rw [if_neg h0] at he ⊢
    rw [if_neg h0]
    by_cases h1 : byte s 0 = 100
    · rw [if_pos h1] at he ⊢
      rw [if_pos h1, refText_eq] at *
      have he' : (textR (rest1 s) 1024).2.2 ≠ 0 := he
      rw [if_pos he']
      exact ⟨rfl, he'⟩
    rw [if_neg h1] at he ⊢
    rw [if_neg h1]
    by_cases h2 : byte s 0 = 97
    · rw [if_pos h2] at he ⊢
      rw [if_pos h2]
      rw [refText_eq, name_eq] at he ⊢
      by_cases h3 : (textR (rest1 s) 32).2.2 ≠ 0
      · rw [if_pos h3, if_neg (fun h => h3 h.1)]
        exact ⟨rfl, h3⟩
      · rw [if_neg h3]
        have h3' : (textR (rest1 s) 32).2.2 = 0 := by simpa using h3
        by_cases h4 : namedR (textR (rest1 s) 32).1 = false
        · rw [if_pos h4, if_pos ⟨h3', h4⟩]; exact ⟨rfl, by decide⟩
        · rw [if_neg (fun h => h4 h.2)] at he
          exact absurd h3' he
    rw [if_neg h2] at he ⊢
    rw [if_neg h2]
    by_cases h3 : byte s 0 = 114
    · rw [if_pos h3] at he ⊢
      rw [if_pos h3]
      rw [refNum_eq] at he ⊢
      by_cases h4 : (numR (rest1 s)).2.2 ≠ 0
      · rw [if_pos h4, if_neg (fun h => h4 h.1)]
        exact ⟨rfl, h4⟩
      · rw [if_neg h4]
        have h4' : (numR (rest1 s)).2.2 = 0 := by simpa using h4
        by_cases h5 : 32 < (numR (rest1 s)).1
        · rw [if_pos h5, if_pos ⟨h4', h5⟩]; exact ⟨rfl, by decide⟩
        · rw [if_neg (fun h => h5 h.2)] at he
          exact absurd h4' he
    rw [if_neg h3] at he ⊢
    rw [if_neg h3]
    by_cases h4 : byte s 0 = 104
    · rw [if_pos h4] at he; exact absurd rfl he
    rw [if_neg h4] at he ⊢
    rw [if_neg h4]
    by_cases h5 : byte s 0 = 109
    · rw [if_pos h5] at he; exact absurd rfl he
    rw [if_neg h5] at he ⊢
    rw [if_neg h5]
    by_cases h6 : byte s 0 = 115
    · rw [if_pos h6] at he; exact absurd rfl he
    rw [if_neg h6, if_neg h6]
    exact ⟨rfl, by decide⟩
theorem refRead_eq : ∀ (k : Nat) (w : ByteArray) (a : Nat), w.size < 4611686018427387904 → a ≤ w.size → match walkR w k a with | .ok y => refRead k (w.extract a w.size) = (((y - a : Nat) : Int), 0) ∧ a ≤ y | .error e => refRead k (w.extract a w.size) = (0, e) ∧ e ≠ 0
  | 0, w, a, _, _ => ⟨rfl, by decide⟩
  | k + 1, w, a, hw, ha => by
    have hz : (w.extract a w.size).size = w.size - a := by simp
    have hh := head_eq (w.extract a w.size) (by omega)
    rw [walkR, refRead]
    cases hf : frontR (w.extract a w.size) with
    | error e =>
      rw [hf] at hh
      simp only at hh ⊢
      rw [rloop_err _ _ (by rw [hh.1]; exact hh.2), finR, if_pos (by rw [hh.1]; exact hh.2), hh.1]
      exact ⟨rfl, hh.2⟩
    | ok x =>
      rw [hf] at hh
      simp only at hh ⊢
      have hfl := frontR_len (n := x.1) (p := x.2) hf
      rw [hh]
      simp only [Int.toNat_natCast]
      have key : ∀ (i n : Nat), a + n ≤ w.size → match iter (walkR w k) i (a + n) with | .ok y => rloop (refRead k) (w.extract a w.size) i (n : Int) 0 = (((y - a : Nat) : Int), 0) ∧ a ≤ y | .error e => (rloop (refRead k) (w.extract a w.size) i (n : Int) 0).2 = e ∧ e ≠ 0 := by
        intro i
        induction i with
        | zero => intro n hn; exact ⟨by rw [rloop, show a + n - a = n by omega], by omega⟩
        | succ i ih =>
          intro n hn
          rw [iter, rloop, if_neg (by simp), Int.toNat_natCast]
          have hx := ext_ext w ha hn
          rw [hx]
          have hr := refRead_eq k w (a + n) hw hn
          cases hwk : walkR w k (a + n) with
          | error e =>
            rw [hwk] at hr
            simp only at hr ⊢
            rw [hr.1, rloop_err _ _ hr.2]
            exact ⟨rfl, hr.2⟩
          | ok y =>
            rw [hwk] at hr
            simp only at hr ⊢
            have hyl := walkR_len w k (a + n) y hn hwk
            rw [hr.1]
            have e1 : IntKind.i64.wrap ((n : Int) + ((y - (a + n) : Nat) : Int)) = ((y - a : Nat) : Int) := by
              rw [show (n : Int) + ((y - (a + n) : Nat) : Int) = ((y - a : Nat) : Int) by omega, wrap64_nat (by omega)]
            simp only [e1]
            have := ih (y - a) (by omega)
            rw [show a + (y - a) = y by omega] at this
            exact this
      have hk := key x.2 x.1 (by omega)
      cases hit : iter (walkR w k) x.2 (a + x.1) with
      | error e =>
        rw [hit] at hk
        simp only at hk ⊢
        rw [finR, if_pos (by rw [hk.1]; exact hk.2), hk.1]
        exact ⟨rfl, hk.2⟩
      | ok y =>
        rw [hit] at hk
        simp only at hk ⊢
        rw [finR, hk.1, if_neg (by simp)]
        exact ⟨rfl, hk.2⟩
end Go.Proofs.YtladcmfbkiogbaaGreatDoor
namespace Go.Proofs.YtladcmfbkiogbaaGreatDoor
open Go.Chi
inductive Hd : ByteArray → Nat → Prop
  | data {t : ByteArray} (h : t.size ≤ 1024) : Hd (bytesI [100] ++ textB t) 0
  | atom {t : ByteArray} (h : t.size ≤ 32) (hn : namedR t = true) : Hd (bytesI [97] ++ textB t) 0
  | row {v : Nat} (h : v ≤ 32) : Hd (bytesI [114] ++ numB v) v
  | hash : Hd (bytesI [104]) 1
  | mac : Hd (bytesI [109]) 2
  | slot : Hd (bytesI [115]) 3
theorem rest1_one (c : Int) (x : ByteArray) : rest1 (bytesI [c] ++ x) = x := ext_right (bytesI [c]) x
theorem byte0_one {c : Int} (h0 : 0 ≤ c) (h : c < 256) (x : ByteArray) : byte (bytesI [c] ++ x) 0 = c := by
  rw [byte_left (by rw [bytesI_one]; decide), byte_one c h0 h]
theorem one_ne (c : Int) (x : ByteArray) : ¬ (bytesI [c] ++ x).size = 0 := by rw [app_size, bytesI_one]; omega
theorem hd_front {h : ByteArray} {p : Nat} (hh : Hd h p) (x : ByteArray) : frontR (h ++ x) = .ok (h.size, p) := by
  cases hh with
  | @data t ht =>
    rw [app_assoc]
    unfold frontR
    rw [if_neg (one_ne _ _), byte0_one (by decide) (by decide), if_pos rfl, rest1_one, text_read ht (by decide) x, if_neg (by simp), app_size, bytesI_one]
    simp only
    congr 2
  | @atom t ht hn =>
    rw [app_assoc]
    unfold frontR
    rw [if_neg (one_ne _ _), byte0_one (by decide) (by decide), if_neg (by decide), if_pos rfl, rest1_one, text_read ht (by decide) x, if_neg (by simp), if_neg (by rw [hn]; simp), app_size, bytesI_one]
    simp only
    congr 2
  | @row v hv =>
    rw [app_assoc]
    unfold frontR
    rw [if_neg (one_ne _ _), byte0_one (by decide) (by decide), if_neg (by decide), if_neg (by decide), if_pos rfl, rest1_one, num_read (v := p) (by omega) x, if_neg (by simp), if_neg (by simp; omega), app_size, bytesI_one]
    simp only [Int.toNat_natCast]
    congr 2
  | hash =>
    unfold frontR
    rw [if_neg (one_ne _ _), byte0_one (by decide) (by decide), if_neg (by decide), if_neg (by decide), if_neg (by decide), if_pos rfl, bytesI_one]
  | mac =>
    unfold frontR
    rw [if_neg (one_ne _ _), byte0_one (by decide) (by decide), if_neg (by decide), if_neg (by decide), if_neg (by decide), if_neg (by decide), if_pos rfl, bytesI_one]
  | slot =>
    unfold frontR
    rw [if_neg (one_ne _ _), byte0_one (by decide) (by decide), if_neg (by decide), if_neg (by decide), if_neg (by decide), if_neg (by decide), if_neg (by decide), if_pos rfl, bytesI_one]
theorem byte_split {s : ByteArray} (h : ¬ s.size = 0) {c : Int} (hc : byte s 0 = c) : s = bytesI [c] ++ rest1 s := by
  have := ext_split s (n := 1) (by omega)
  rw [ext_one (by omega), hc] at this
  exact this
theorem front_hd {s : ByteArray} {n p : Nat} (h : frontR s = .ok (n, p)) : ∃ hd x, s = hd ++ x ∧ Hd hd p ∧ hd.size = n := by
  unfold frontR at h
  split at h
  · cases h
  rename_i h0
  split at h
  · rename_i hc
    split at h
    · cases h
    · rename_i h1
      obtain ⟨t, ht, he, hs⟩ := text_back (s := rest1 s) (most := 1024) (by simpa using h1)
      rw [he] at h
      simp only [Except.ok.injEq, Prod.mk.injEq] at h
      refine ⟨bytesI [100] ++ textB t, (rest1 s).extract (textB t).size (rest1 s).size, ?_, h.2 ▸ Hd.data ht, ?_⟩
      · rw [app_assoc, ← hs]; exact byte_split h0 hc
      · rw [app_size, bytesI_one]; omega
  split at h
  · rename_i hc
    split at h
    · cases h
    split at h
    · cases h
    · rename_i h1 h2
      obtain ⟨t, ht, he, hs⟩ := text_back (s := rest1 s) (most := 32) (by simpa using h1)
      rw [he] at h h2
      simp only [Except.ok.injEq, Prod.mk.injEq] at h
      refine ⟨bytesI [97] ++ textB t, (rest1 s).extract (textB t).size (rest1 s).size, ?_, h.2 ▸ Hd.atom ht (by simpa using h2), ?_⟩
      · rw [app_assoc, ← hs]; exact byte_split h0 hc
      · rw [app_size, bytesI_one]; omega
  split at h
  · rename_i hc
    split at h
    · cases h
    split at h
    · cases h
    · rename_i h1 h2
      obtain ⟨v, hv, he, hs⟩ := num_back (s := rest1 s) (by simpa using h1)
      rw [he] at h h2
      simp only [Except.ok.injEq, Prod.mk.injEq] at h
      have hp : v = p := by have := h.2; omega
      subst hp
      refine ⟨bytesI [114] ++ numB v, (rest1 s).extract (numB v).size (rest1 s).size, ?_, Hd.row (by simp at h2; omega), ?_⟩
      · rw [app_assoc, ← hs]; exact byte_split h0 hc
      · rw [app_size, bytesI_one]; omega
  split at h
  · rename_i hc
    simp only [Except.ok.injEq, Prod.mk.injEq] at h
    exact ⟨bytesI [104], rest1 s, byte_split h0 hc, h.2 ▸ Hd.hash, h.1⟩
  split at h
  · rename_i hc
    simp only [Except.ok.injEq, Prod.mk.injEq] at h
    exact ⟨bytesI [109], rest1 s, byte_split h0 hc, h.2 ▸ Hd.mac, h.1⟩
  split at h
  · rename_i hc
    simp only [Except.ok.injEq, Prod.mk.injEq] at h
    exact ⟨bytesI [115], rest1 s, byte_split h0 hc, h.2 ▸ Hd.slot, h.1⟩
  · cases h
theorem Hd.pos {h : ByteArray} {p : Nat} (hh : Hd h p) : 1 ≤ h.size := by
  cases hh <;> simp only [app_size, bytesI_one] <;> omega
def cat : List ByteArray → ByteArray
  | [] => ⟨#[]⟩
  | p :: ps => p ++ cat ps
def Tm : Nat → ByteArray → Prop
  | 0, _ => False
  | k + 1, t => ∃ h ps, Hd h ps.length ∧ t = h ++ cat ps ∧ ∀ p ∈ ps, Tm k p
theorem Tm.pos {k : Nat} {t : ByteArray} (h : Tm k t) : 1 ≤ t.size := by
  cases k with
  | zero => exact h.elim
  | succ k =>
    obtain ⟨hd, ps, h1, rfl, _⟩ := h
    rw [app_size]
    have := h1.pos
    omega
theorem Tm.mono : ∀ {k k' : Nat} {t : ByteArray}, Tm k t → k ≤ k' → Tm k' t
  | 0, _, _, h, _ => h.elim
  | k + 1, 0, _, _, h => by omega
  | k + 1, k' + 1, t, ⟨hd, ps, h1, h2, h3⟩, h => ⟨hd, ps, h1, h2, fun p hp => (h3 p hp).mono (by omega)⟩
theorem walk_at : ∀ {k : Nat} {t : ByteArray}, Tm k t → ∀ x y : ByteArray, walkR (x ++ (t ++ y)) k x.size = .ok (x.size + t.size)
  | 0, _, h, _, _ => h.elim
  | k + 1, _, ⟨hd, ps, h1, rfl, h3⟩, x, y => by
    rw [walkR, ext_right, app_assoc, hd_front h1]
    simp only
    have key : ∀ (ps : List ByteArray), (∀ p ∈ ps, Tm k p) → ∀ x : ByteArray, iter (walkR (x ++ (cat ps ++ y)) k) ps.length x.size = .ok (x.size + (cat ps).size) := by
      intro ps
      induction ps with
      | nil => intro _ x; rw [List.length_nil, iter, cat]; rfl
      | cons p ps ih =>
        intro hp x
        rw [List.length_cons, iter, cat, app_assoc, walk_at (hp p List.mem_cons_self) x (cat ps ++ y)]
        simp only
        have := ih (fun q hq => hp q (List.mem_cons_of_mem _ hq)) (x ++ p)
        rw [app_assoc, app_size] at this
        rw [this, app_size, Nat.add_assoc]
    have := key ps h3 (x ++ hd)
    rw [app_assoc, app_size] at this
    rw [this, app_size, Nat.add_assoc]
theorem at_walk (s : ByteArray) : ∀ {k a e : Nat}, a ≤ s.size → walkR s k a = .ok e → ∃ t y, s.extract a s.size = t ++ y ∧ Tm k t ∧ e = a + t.size
  | 0, _, _, _, h => by cases h
  | k + 1, a, e, ha, h => by
    rw [walkR] at h
    split at h
    · cases h
    rename_i x hx
    obtain ⟨hd, y, h1, h2, h3⟩ := front_hd (n := x.1) (p := x.2) hx
    have hz : (s.extract a s.size).size = s.size - a := by simp
    have hle : a + x.1 ≤ s.size := by
      have := congrArg ByteArray.size h1
      rw [hz, app_size] at this
      omega
    have key : ∀ (i b e : Nat), b ≤ s.size → iter (walkR s k) i b = .ok e → ∃ ps y, ps.length = i ∧ s.extract b s.size = cat ps ++ y ∧ (∀ p ∈ ps, Tm k p) ∧ e = b + (cat ps).size := by
      intro i
      induction i with
      | zero =>
        intro b e hb he
        rw [iter, Except.ok.injEq] at he
        subst he
        exact ⟨[], s.extract b s.size, rfl, (nil_app _).symm, (fun p hp => by cases hp), rfl⟩
      | succ i ih =>
        intro b e hb he
        rw [iter] at he
        split at he
        · cases he
        rename_i c hc
        obtain ⟨t, y, q1, q2, q3⟩ := at_walk s hb hc
        have hcl := walkR_len s k b c hb hc
        obtain ⟨ps, y2, r1, r2, r3, r4⟩ := ih c e hcl he
        have hy : y = s.extract c s.size := by
          have := ext_right t y
          rw [← q1, ext_ext s hb (by omega)] at this
          rw [← this, q3]
        refine ⟨t :: ps, y2, by rw [List.length_cons, r1], by rw [q1, hy, r2, cat, app_assoc], ?_, by rw [cat, app_size]; omega⟩
        intro p hp
        rcases List.mem_cons.1 hp with rfl | hp
        · exact q2
        · exact r3 p hp
    obtain ⟨ps, y2, r1, r2, r3, r4⟩ := key x.2 (a + x.1) e hle h
    have hy : y = s.extract (a + x.1) s.size := by
      have := ext_right hd y
      rw [← h1, h3, ext_ext s ha (by omega)] at this
      exact this.symm
    exact ⟨hd ++ cat ps, y2, by rw [h1, hy, r2, app_assoc], ⟨hd, ps, by rw [r1]; exact h2, rfl, r3⟩, by rw [app_size]; omega⟩
theorem ok_tm {t : ByteArray} (hs : t.size < 4611686018427387904) (h : checkR t = 0) : Tm 16 t ∧ t.size ≤ 16384 := by
  unfold checkR at h
  split at h
  · cases h
  rename_i hc
  have hr := refRead_eq 16 t 0 hs (Nat.zero_le _)
  cases hw : walkR t 16 0 with
  | error e =>
    rw [hw] at h hr
    exact absurd h hr.2
  | ok y =>
    obtain ⟨u, v, h1, h2, h3⟩ := at_walk t (Nat.zero_le _) hw
    rw [ext_all] at h1
    rw [hw] at h hc
    have hy : ¬ 16384 < y := fun h4 => by
      have : readR (.ok y) = (0, 5) := if_pos h4
      rw [this] at h
      cases h
    have hry : readR (.ok y) = ((y : Int), 0) := if_neg hy
    rw [hry] at hc
    have h5 : y = t.size := by
      by_cases h5 : y = t.size
      · exact h5
      · exact absurd ⟨rfl, show (y : Int) ≠ _ by omega⟩ hc
    have : v.size = 0 := by
      have := congrArg ByteArray.size h1
      rw [app_size] at this
      omega
    have hv : v = ⟨#[]⟩ := by
      apply ba_ext
      apply List.eq_nil_of_length_eq_zero
      rw [ba_len, this]
    rw [hv, app_nil] at h1
    exact ⟨h1 ▸ h2, by omega⟩
theorem tm_ok {t : ByteArray} (h : Tm 16 t) (hz : t.size ≤ 16384) : checkR t = 0 := by
  have := walk_at h ⟨#[]⟩ ⟨#[]⟩
  rw [nil_app, app_nil] at this
  have h0 : (⟨#[]⟩ : ByteArray).size = 0 := rfl
  rw [h0, Nat.zero_add] at this
  have hry : readR (walkR t 16 0) = ((t.size : Int), 0) := by rw [this]; exact if_neg (by omega)
  unfold checkR
  rw [hry]
  exact if_neg (fun h => h.2 rfl)
theorem check_iff {t : ByteArray} (hs : t.size < 4611686018427387904) : checkR t = 0 ↔ Tm 16 t ∧ t.size ≤ 16384 := ⟨ok_tm hs, fun h => tm_ok h.1 h.2⟩
end Go.Proofs.YtladcmfbkiogbaaGreatDoor
namespace Go.Proofs.YtladcmfbkiogbaaGreatDoor
open Go.Chi
def cutL : Nat → ByteArray → List ByteArray
  | 0, _ => []
  | i + 1, u => u.extract 0 (refRead 16 u).1.toNat :: cutL i (u.extract (refRead 16 u).1.toNat u.size)
def headN (t : ByteArray) : Nat := match frontR t with | .ok x => x.1 | .error _ => 0
def partsL (t : ByteArray) : List ByteArray := match frontR t with | .ok x => cutL x.2 (t.extract x.1 t.size) | .error _ => []
theorem read_at {k : Nat} {t : ByteArray} (h : Tm k t) (hk : k ≤ 16) (y : ByteArray) (hs : (t ++ y).size < 4611686018427387904) : refRead 16 (t ++ y) = ((t.size : Int), 0) := by
  have h1 := walk_at (h.mono hk) ⟨#[]⟩ y
  have h2 := refRead_eq 16 (t ++ y) 0 hs (Nat.zero_le _)
  rw [nil_app, show (⟨#[]⟩ : ByteArray).size = 0 from rfl, Nat.zero_add] at h1
  rw [h1, ext_all] at h2
  exact h2.1
theorem cut_cat {k : Nat} (hk : k ≤ 16) : ∀ {ps : List ByteArray}, (∀ p ∈ ps, Tm k p) → ∀ y : ByteArray, (cat ps ++ y).size < 4611686018427387904 → cutL ps.length (cat ps ++ y) = ps
  | [], _, _, _ => rfl
  | p :: ps, hp, y, hs => by
    rw [cat, app_assoc] at hs ⊢
    rw [List.length_cons, cutL, read_at (hp p List.mem_cons_self) hk _ hs]
    simp only [Int.toNat_natCast]
    rw [ext_left, ext_right, cut_cat hk (fun q hq => hp q (List.mem_cons_of_mem _ hq)) y (by rw [app_size] at hs; omega)]
theorem head_of {h : ByteArray} {p : Nat} (hh : Hd h p) (x : ByteArray) : headN (h ++ x) = h.size := by
  unfold headN; rw [hd_front hh]
theorem parts_of {k : Nat} (hk : k ≤ 16) {h : ByteArray} {ps : List ByteArray} (hh : Hd h ps.length) (hp : ∀ p ∈ ps, Tm k p) (hs : (h ++ cat ps).size < 4611686018427387904) : partsL (h ++ cat ps) = ps := by
  unfold partsL
  rw [hd_front hh]
  simp only
  rw [ext_right]
  have := cut_cat hk hp ⟨#[]⟩ (by rw [app_nil]; rw [app_size] at hs; omega)
  rwa [app_nil] at this
theorem cat_mem {p : ByteArray} : ∀ {ps : List ByteArray}, p ∈ ps → p.size ≤ (cat ps).size
  | [], h => by cases h
  | q :: ps, h => by
    rw [cat, app_size]
    rcases List.mem_cons.1 h with rfl | h
    · omega
    · have := cat_mem h; omega
structure Pl where
  a : Nat
  e : Nat
  d : Nat
def kids (f : Nat → ByteArray → List Pl) : Nat → List ByteArray → List Pl
  | _, [] => []
  | a, p :: ps => f a p ++ kids f (a + p.size) ps
def postL : Nat → Nat → Nat → ByteArray → List Pl
  | 0, _, _, _ => []
  | k + 1, d, a, t => kids (postL k (d + 1)) (a + headN t) (partsL t) ++ [⟨a, a + t.size, d⟩]
def preL : Nat → Nat → Nat → ByteArray → List Pl
  | 0, _, _, _ => []
  | k + 1, d, a, t => ⟨a, a + t.size, d⟩ :: kids (preL k (d + 1)) (a + headN t) (partsL t)
theorem kids_perm {f g : Nat → ByteArray → List Pl} (h : ∀ a p, (f a p).Perm (g a p)) : ∀ a ps, (kids f a ps).Perm (kids g a ps)
  | _, [] => List.Perm.refl _
  | a, p :: ps => (h a p).append (kids_perm h (a + p.size) ps)
theorem post_pre : ∀ k d a t, (postL k d a t).Perm (preL k d a t)
  | 0, _, _, _ => List.Perm.refl _
  | k + 1, d, a, t => by
    rw [postL, preL]
    exact (List.perm_append_singleton _ _).trans ((kids_perm (post_pre k (d + 1)) _ _).cons _)
def InP (a e d : Nat) (p : Pl) : Prop := a ≤ p.a ∧ p.a < e ∧ p.a < p.e ∧ p.e ≤ e ∧ d ≤ p.d
theorem kids_in {f : Nat → ByteArray → List Pl} {d : Nat} : ∀ {ps : List ByteArray} {a : Nat}, (∀ p ∈ ps, ∀ a, (∀ q ∈ f a p, InP a (a + p.size) d q) ∧ (f a p).Pairwise (fun q r => q.a < r.a)) →
    (∀ q ∈ kids f a ps, InP a (a + (cat ps).size) d q) ∧ (kids f a ps).Pairwise (fun q r => q.a < r.a)
  | [], _, _ => ⟨(fun q hq => by cases hq), List.Pairwise.nil⟩
  | p :: ps, a, h => by
    obtain ⟨h1, h2⟩ := h p List.mem_cons_self a
    obtain ⟨h3, h4⟩ := kids_in (ps := ps) (a := a + p.size) (fun q hq => h q (List.mem_cons_of_mem _ hq))
    rw [kids, cat, app_size]
    refine ⟨fun q hq => ?_, List.pairwise_append.2 ⟨h2, h4, fun q hq r hr => ?_⟩⟩
    · rcases List.mem_append.1 hq with hq | hq
      · obtain ⟨q1, q2, q3, q4, q5⟩ := h1 q hq
        exact ⟨q1, by omega, q3, by omega, q5⟩
      · obtain ⟨q1, q2, q3, q4, q5⟩ := h3 q hq
        exact ⟨by omega, by omega, q3, by omega, q5⟩
    · have := h1 q hq
      have := h3 r hr
      unfold InP at *
      omega
theorem pre_in : ∀ {k : Nat}, k ≤ 16 → ∀ {t : ByteArray}, Tm k t → t.size < 4611686018427387904 → ∀ (d a : Nat), (∀ q ∈ preL k d a t, InP a (a + t.size) d q) ∧ (preL k d a t).Pairwise (fun q r => q.a < r.a)
  | 0, _, _, h, _, _, _ => h.elim
  | k + 1, hk, t, ⟨hd, ps, h1, h2, h3⟩, hs, d, a => by
    subst h2
    have hpos := h1.pos
    rw [preL, head_of h1, parts_of (by omega) h1 h3 hs]
    have hz : (hd ++ cat ps).size = hd.size + (cat ps).size := app_size _ _
    obtain ⟨q1, q2⟩ := kids_in (f := preL k (d + 1)) (d := d + 1) (ps := ps) (a := a + hd.size) fun p hp a => pre_in (by omega) (h3 p hp) (by have := cat_mem hp; omega) (d + 1) a
    refine ⟨fun q hq => ?_, List.pairwise_cons.2 ⟨fun q hq => ?_, q2⟩⟩
    · rcases List.mem_cons.1 hq with rfl | hq
      · exact ⟨Nat.le_refl _, by show a < _; omega, by show a < a + _; omega, Nat.le_refl _, Nat.le_refl _⟩
      · obtain ⟨r1, r2, r3, r4, r5⟩ := q1 q hq
        exact ⟨by omega, by omega, r3, by omega, by omega⟩
    · have := (q1 q hq).1
      show a < q.a
      omega
end Go.Proofs.YtladcmfbkiogbaaGreatDoor
namespace Go.Proofs.YtladcmfbkiogbaaGreatDoor
open Go.Chi
end Go.Proofs.YtladcmfbkiogbaaGreatDoor
namespace Go.Proofs.YtladcmfbkiogbaaGreatDoor
open Go.Chi
end Go.Proofs.YtladcmfbkiogbaaGreatDoor
namespace Go.Proofs.YtladcmfbkiogbaaGreatDoor
open Go.Chi
def mayB (t : ByteArray) : Bool := decide (checkR t = 0)
theorem mayB_iff {t : ByteArray} (hs : t.size < 4611686018427387904) : mayB t = true ↔ Tm 16 t ∧ t.size ≤ 16384 := by rw [mayB, decide_eq_true_eq]; exact check_iff hs
end Go.Proofs.YtladcmfbkiogbaaGreatDoor
namespace Go.Proofs.YtladcmfbkiogbaaGreatDoor
open Go.Chi
end Go.Proofs.YtladcmfbkiogbaaGreatDoor
namespace Go.Proofs.YtladcmfbkiogbaaGreatDoor
open Go.Chi
def kindB (c : Int) : Int := if c = 100 then 1 else if c = 97 then 2 else if c = 114 then 3 else if c = 104 then 4 else if c = 109 then 5 else 6
def kindN (t : ByteArray) : Int := if mayB t = true then kindB (byte t 0) else 0
theorem Tm.byte {k : Nat} {t : ByteArray} (h : Tm k t) : byte t 0 = 100 ∨ byte t 0 = 97 ∨ byte t 0 = 114 ∨ byte t 0 = 104 ∨ byte t 0 = 109 ∨ byte t 0 = 115 := by
  cases k with
  | zero => exact h.elim
  | succ k =>
    obtain ⟨hd, ps, h1, rfl, _⟩ := h
    rw [byte_left h1.pos]
    generalize ps.length = n at h1
    cases h1 with
    | data h => left; exact byte0_one (by decide) (by decide) _
    | atom h hn => right; left; exact byte0_one (by decide) (by decide) _
    | row h => right; right; left; exact byte0_one (by decide) (by decide) _
    | hash => right; right; right; left; exact byte_one 104 (by decide) (by decide)
    | mac => right; right; right; right; left; exact byte_one 109 (by decide) (by decide)
    | slot => right; right; right; right; right; exact byte_one 115 (by decide) (by decide)
def textN (t : ByteArray) : ByteArray × Bool := if mayB t = true ∧ (byte t 0 = 100 ∨ byte t 0 = 97) then ((textR (rest1 t) 1024).1, true) else (⟨#[]⟩, false)
end Go.Proofs.YtladcmfbkiogbaaGreatDoor
namespace Go.Proofs.YtladcmfbkiogbaaGreatDoor
open Go.Chi
theorem take_snoc {α : Type} {l : List α} {j : Nat} {x : α} (h : l[j]? = some x) : l.take (j + 1) = l.take j ++ [x] := by rw [List.take_add_one, h]; rfl
theorem any_snoc {α : Type} {xs : List α} {j : Nat} {x : α} (p : α → Bool) (hx : xs[j]? = some x) (hp : (xs.take j).any p = false) : (xs.take (j + 1)).any p = p x := by rw [take_snoc hx, List.any_append, hp]; simp
theorem any_true {α : Type} {xs : List α} {j : Nat} {x : α} (p : α → Bool) (hx : xs[j]? = some x) (hp : p x = true) : xs.any p = true := List.any_eq_true.2 ⟨x, List.mem_of_getElem? hx, hp⟩
theorem SMb.at_ {M : Mem} {a : Option Addr} {len : Nat} {xs : List Mb} (h : SlM M 2 a len (xs.map mbC)) {j : Nat} (hj : j < len) : ∃ b off m, a = some ⟨b, off, none⟩ ∧ xs[j]? = some m ∧ Cells M [] b (off + j * 2) (mbC m) := by
  obtain ⟨b, off, c, ha, hc, _, hcells⟩ := h.at_ hj
  obtain ⟨m, hm, rfl⟩ : ∃ m, xs[j]? = some m ∧ mbC m = c := by simpa using hc
  exact ⟨b, off, m, ha, hm, hcells⟩
def stC (x : ByteArray) : List Value := [.string x]
theorem SStr.at_ {M : Mem} {a : Option Addr} {len : Nat} {xs : List ByteArray} (h : SlM M 1 a len (xs.map stC)) {j : Nat} (hj : j < len) : ∃ b off m, a = some ⟨b, off, none⟩ ∧ xs[j]? = some m ∧ Cells M [] b (off + j * 1) (stC m) := by
  obtain ⟨b, off, c, ha, hc, _, hcells⟩ := h.at_ hj
  obtain ⟨m, hm, rfl⟩ : ∃ m, xs[j]? = some m ∧ stC m = c := by simpa using hc
  exact ⟨b, off, m, ha, hm, hcells⟩
def MbOk (M : Mem) (s : SMb) : Prop := s.Ok M ∧ s.len < 1000000
def StOk (M : Mem) (s : SStr) : Prop := s.Ok M ∧ s.len < 1000000
theorem MbOk.le {M M' : Mem} {s : SMb} (hm : M.le M') (h : MbOk M s) : MbOk M' s := ⟨h.1.le hm, h.2⟩
theorem StOk.le {M M' : Mem} {s : SStr} (hm : M.le M') (h : StOk M s) : StOk M' s := ⟨h.1.le hm, h.2⟩
theorem MbOk.nil (M : Mem) : MbOk M ⟨none, 0, 0, []⟩ := ⟨SlM.nil _ _ _, by decide⟩
theorem MbOk.len {M : Mem} {s : SMb} (h : MbOk M s) : s.xs.length = s.len := by have := h.1.1; simpa using this
theorem StOk.len {M : Mem} {s : SStr} (h : StOk M s) : s.xs.length = s.len := by have := h.1.1; simpa using this
end Go.Proofs.YtladcmfbkiogbaaGreatDoor
namespace Go.Proofs.YtladcmfbkiogbaaGreatDoor
open Go.Chi
set_option maxRecDepth 10000
abbrev pt (b : Nat) : Value := .pointer (some ⟨b, 0, none⟩)
abbrev iv (n : Nat) : Value := .int .i64 (n : Int)
theorem isM_ok (M : Mem) (s : SStr) (h : StOk M s) (hz : ∀ t ∈ s.xs, t.size < 4611686018427387904) : TrQ Tryz.prog 202 [s.v] M [] (.bool (s.xs.all mayB)) := by
  have hlen := h.len
  have h6 := h.2
  obtain ⟨a, n, c, xs⟩ := s
  simp only [SStr.v] at *
  refine Tr.intro 15 Tryz.func202 rfl rfl Tryz.call202 rfl ?_; intro C hC hro
  repeat (first | refine zz ?_ | refine zx fun _ => ?_)
  refine run_loopN (fun j σ1 M1 L1 => j ≤ n ∧ M = M1 ∧ [] = L1 ∧ (xs.take j).all mayB = true ∧ σ1 = [(7, iv j), (6, iv n), (5, .slice a n c)]) n [(7, iv 0), (6, iv n), (5, .slice a n c)] ?_ ⟨Nat.zero_le _, rfl, rfl, rfl, rfl⟩ (fun j _ _ _ h => h.1) ?_
  · exact ⟨rfl, rfl, rfl, trivial⟩
  rintro j _ _ _ ⟨hj, rfl, rfl, hpre, rfl⟩ hnext
  repeat (first | refine zz ?_ | refine zx fun _ => ?_)
  refine run_cond rfl (fun h1 => ?_) (fun h1 => ?_)
  · have hlt : j < n := by simpa using h1
    obtain ⟨b, off, t, ha, hm, hc⟩ := SStr.at_ h.1 hlt
    subst ha
    have htz := hz t (List.mem_of_getElem? hm)
    repeat (first | refine zz ?_ | refine zx fun _ => ?_ | refine runL_q (qt_indexN tok rfl rfl rfl rfl (fun _ => by omega)) rfl rfl rfl ?_ | refine runL_g rfl rfl (qt_indexN tok rfl rfl rfl rfl (fun _ => by omega)) rfl rfl rfl rfl rfl ?_ | refine runL_q (qt_ldM tok rfl hc rfl) rfl rfl rfl ?_ | refine runL_g rfl rfl (qt_ldM tok rfl hc rfl) rfl rfl rfl rfl rfl ?_ | refine runL_q (qt_ldM0 tok rfl hc rfl) rfl rfl rfl ?_ | refine runL_g rfl rfl (qt_ldM0 tok rfl hc rfl) rfl rfl rfl rfl rfl ?_ | refine rq (qt_callF rfl (fun _ => check_ok _ _ t htz)) ?_)
    refine run_cond (t := checkR t != 0) rfl (fun h2 => ?_) (fun h2 => ?_)
    · have hf : mayB t = false := by simp at h2; simp [mayB, h2]
      repeat (first | refine zz ?_ | refine zx fun _ => ?_)
      exact run_ret hC (rs := [.tmp 2]) rfl (resT rfl resN) (fun _ h => h) ⟨by rw [show xs.all mayB = false from List.all_eq_false.2 ⟨t, List.mem_of_getElem? hm, show ¬ mayB t = true by rw [hf]; decide⟩]; rfl, rfl, rfl⟩
    · have ht : mayB t = true := by simp at h2; simp [mayB, h2]
      repeat (first | refine zz ?_ | refine zx fun _ => ?_)
      exact run_sub' (hnext _ _ _ ⟨hlt, rfl, rfl, by rw [List.take_add_one, hm, List.all_append, hpre]; simp [ht], rfl⟩) ⟨lk_succ rfl (by omega), rfl, rfl, trivial⟩
  · have hge : j = n := by simp at h1; omega
    subst hge
    rw [List.take_of_length_le (by omega)] at hpre
    repeat (first | refine zz ?_ | refine zx fun _ => ?_)
    exact run_ret hC (rs := [.tmp 2]) rfl (resT rfl resN) (fun _ h => h) ⟨by rw [hpre]; rfl, rfl, rfl⟩
theorem isL_ok (M : Mem) (L : HL) (b n : Nat) (xs : List ByteArray) (hm : (b, Obj.cells ⟨(xs.map stC).flatten⟩ 9 (0, 0)) ∈ L) (hn : xs.length = n) (h6 : n < 1000000) (hz : ∀ t ∈ xs, t.size < 4611686018427387904) : TrQ Tryz.prog 202 [.slice (some ⟨b, 0, none⟩) n n] M L (.bool (xs.all mayB)) :=
  TrQ.lend (fun w => Tryz.call202 _ w) fun M' _ hb => isM_ok M' ⟨some ⟨b, 0, none⟩, n, n, xs⟩ ⟨by
    have := SlM.ofBlk (size := 1) (ls := xs.map stC) (hb _ _ hm) rfl (fun c hc => by obtain ⟨x, _, rfl⟩ := List.mem_map.1 hc; rfl)
    rwa [List.length_map, hn] at this, h6⟩ hz
def darhms : ByteArray := ⟨#[100, 97, 114, 104, 109, 115]⟩
theorem kind_ix : ∀ n : Fin 256, (n.val = 100 ∨ n.val = 97 ∨ n.val = 114 ∨ n.val = 104 ∨ n.val = 109 ∨ n.val = 115) → IntKind.u8.wrap (IntKind.i64.wrap (1 + firstIdx darhms ((n.val : Nat) : Int).toNat.toUInt8)) = kindB ((n.val : Nat) : Int) := by decide +kernel
theorem tkind_ok (M : Mem) (L : HL) (t : ByteArray) (hz : t.size < 4611686018427387904) : TrQ Tryz.prog 165 [.string t] M L (.int .u8 (kindN t)) := by
  refine Tr.intro 12 Tryz.func165 rfl rfl Tryz.call165 rfl ?_; intro C hC hro
  repeat (first | refine zz ?_ | refine zx fun _ => ?_)
  rename_i b
  repeat (first | refine zz ?_ | refine zx fun _ => ?_ | refine rq (qt_callF rfl (fun _ => isL_ok _ _ b 1 [t] List.mem_cons_self rfl (by decide) (fun x hx => by simp at hx; subst hx; exact hz))) ?_)
  refine run_cond (t := !(mayB t && true)) rfl (fun h => ?_) (fun h => ?_)
  · have hf : mayB t = false := by simpa using h
    repeat (first | refine zz ?_ | refine zx fun _ => ?_)
    exact run_ret hC (rs := [.tmp 2]) rfl (resT rfl resN) (fun _ h => h.drop) ⟨by rw [kindN, if_neg (by rw [hf]; decide)]; rfl, rfl, rfl⟩
  have ht : mayB t = true := by simpa using h
  obtain ⟨h1, h2⟩ := (mayB_iff hz).1 ht
  obtain ⟨c, hc1, hc2⟩ := byte_at (i := 0) (show 0 < t.size from h1.pos)
  have hk := kind_ix ⟨c.toNat, c.toNat_lt⟩ (by have := h1.byte; rw [hc2] at this; simp only; omega)
  repeat (first | refine zz ?_ | refine zx fun _ => ?_ | refine rq (qt_strIndex (n := 0) (b := c) tok rfl rfl rfl (fun _ => hc1)) ?_ | refine rq (qt_callF rfl (fun _ => indexByte_ok _ _ darhms (c.toNat : Int))) ?_)
  exact run_ret hC (rs := [.tmp 2]) rfl (resT rfl resN) (fun _ h => h.drop) ⟨by rw [kindN, if_pos ht, hc2, ← hk]; rfl, rfl, rfl⟩
theorem kindB_12 (c : Int) : (kindB c = 1 ↔ c = 100) ∧ (kindB c = 2 ↔ c = 97) := by
  unfold kindB
  constructor
  · constructor
    · intro h; repeat' (first | split at h | omega)
    · intro h; rw [if_pos h]
  · constructor
    · intro h; repeat' (first | split at h | omega)
    · intro h; rw [if_neg (by omega), if_pos h]
theorem ttext_ok (M : Mem) (L : HL) (t : ByteArray) (hz : t.size < 4611686018427387904) : TrQ Tryz.prog 166 [.string t] M L (.tuple ⟨[.string (textN t).1, .bool (textN t).2]⟩) := by
  refine Tr.intro 24 Tryz.func166 rfl rfl Tryz.call166 rfl ?_; intro C hC hro
  repeat (first | refine zz ?_ | refine zx fun _ => ?_ | refine rq (qt_callF rfl (fun _ => tkind_ok _ _ t hz)) ?_)
  have hkb := kindB_12 (byte t 0)
  refine run_cond (t := (kindN t != 1) && (kindN t != 2)) rfl (fun h => ?_) (fun h => ?_)
  · have hn : textN t = (⟨#[]⟩, false) := by
      unfold textN
      rw [if_neg]
      rintro ⟨h1, h2⟩
      unfold kindN at h
      rw [if_pos h1] at h
      simp only [Bool.and_eq_true, bne_iff_ne] at h
      omega
    repeat (first | refine zz ?_ | refine zx fun _ => ?_)
    exact run_ret hC (rs := [.tmp 2, .tmp 3]) rfl (resT rfl (resT rfl resN)) (fun _ h => h) ⟨by rw [hn]; rfl, rfl, rfl⟩
  have hn : textN t = ((textR (rest1 t) 1024).1, true) ∧ 1 ≤ t.size := by
    unfold textN
    have h1 : mayB t = true := by
      cases hm : mayB t with
      | true => rfl
      | false => unfold kindN at h; rw [if_neg (by rw [hm]; decide)] at h; simp at h
    unfold kindN at h
    rw [if_pos h1] at h
    refine ⟨if_pos ⟨h1, ?_⟩, ((mayB_iff hz).1 h1).1.pos⟩
    simp only [Bool.and_eq_false_iff, bne_eq_false_iff_eq] at h
    omega
  repeat (first | refine zz ?_ | refine zx fun _ => ?_ | refine rq (qt_strLo (n := 1) tok rfl rfl rfl (fun _ => hn.2)) ?_ | refine rq (qt_callF rfl (fun _ => readText_ok _ _ (rest1 t) 1024 (by rw [rest1_size]; omega) (by decide))) ?_)
  exact run_ret hC (rs := [.tmp 2, .tmp 3]) rfl (resT rfl (resT rfl resN)) (fun _ h => h) ⟨by rw [hn.1]; rfl, rfl, rfl⟩
end Go.Proofs.YtladcmfbkiogbaaGreatDoor
namespace Go.Proofs.YtladcmfbkiogbaaGreatDoor
open Go.Chi
set_option maxRecDepth 10000
def ofR (r : Int) : Int := if 97 ≤ r ∧ r ≤ 122 then 1 else if 945 ≤ r ∧ r ≤ 969 then 2 else if 1072 ≤ r ∧ r ≤ 1103 then 3 else 0
def blkC : List Value := [.int .u8 1, .int .i32 97, .int .i32 122, .int .u8 2, .int .i32 945, .int .i32 969, .int .u8 3, .int .i32 1072, .int .i32 1103]
theorem blocks_ok (M : Mem) (L : HL) : Tr Tryz.prog 154 [] M L (fun v M' L' => M = M' ∧ ∃ b, v = .slice (some ⟨b, 0, none⟩) 3 3 ∧ L' = (b, .cells ⟨blkC⟩ 183 (0, 0)) :: L) := by
  refine Tr.intro 5 Tryz.func154 rfl rfl Tryz.call154 rfl ?_; intro C hC hro
  repeat (first | refine yy ?_ | refine yx fun _ => ?_)
  exact run_ret hC (rs := [.tmp 0]) rfl (resT rfl resN) (fun _ h => h) ⟨rfl, _, rfl, rfl⟩
theorem of_ok (M : Mem) (L : HL) (r : Int) : TrQ Tryz.prog 122 [.int .i32 r] M L (.int .u8 (ofR r)) := by
  refine Tr.intro 24 Tryz.func122 rfl rfl Tryz.call122 rfl ?_; intro C hC hro
  repeat (first | refine yy ?_ | refine yx fun _ => ?_ | (refine oc (blocks_ok _ _) ?_; rintro _ _ _ ⟨rfl, b, rfl, rfl⟩))
  refine run_loop ?_
  repeat (first | refine yy ?_ | refine yx fun _ => ?_ | refine run_cond (t := true) rfl (fun _ => ?_) (fun h => by cases h))
  refine run_cond (t := decide (r ≥ 97) && decide (r ≤ 122)) rfl (fun h1 => ?_) (fun h1 => ?_)
  · have e : ofR r = 1 := by rw [ofR, if_pos (by simpa using h1)]
    repeat (first | refine yy ?_ | refine yx fun _ => ?_)
    exact run_ret hC (rs := [.tmp 2]) rfl (resT rfl resN) (fun _ h => h.drop.drop) ⟨by rw [e]; rfl, rfl, rfl⟩
  repeat (first | refine yy ?_ | refine yx fun _ => ?_ | refine run_inLoop ?_ | refine run_cond (t := true) rfl (fun _ => ?_) (fun h => by cases h))
  refine run_cond (t := decide (r ≥ 945) && decide (r ≤ 969)) rfl (fun h2 => ?_) (fun h2 => ?_)
  · have e : ofR r = 2 := by rw [ofR, if_neg (by simpa using h1), if_pos (by simpa using h2)]
    repeat (first | refine yy ?_ | refine yx fun _ => ?_)
    exact run_ret hC (rs := [.tmp 2]) rfl (resT rfl resN) (fun _ h => h.drop.drop.drop) ⟨by rw [e]; rfl, rfl, rfl⟩
  repeat (first | refine yy ?_ | refine yx fun _ => ?_ | refine run_inLoop ?_ | refine run_cond (t := true) rfl (fun _ => ?_) (fun h => by cases h))
  refine run_cond (t := decide (r ≥ 1072) && decide (r ≤ 1103)) rfl (fun h3 => ?_) (fun h3 => ?_)
  · have e : ofR r = 3 := by rw [ofR, if_neg (by simpa using h1), if_neg (by simpa using h2), if_pos (by simpa using h3)]
    repeat (first | refine yy ?_ | refine yx fun _ => ?_)
    exact run_ret hC (rs := [.tmp 2]) rfl (resT rfl resN) (fun _ h => h.drop.drop.drop.drop) ⟨by rw [e]; rfl, rfl, rfl⟩
  have e : ofR r = 0 := by rw [ofR, if_neg (by simpa using h1), if_neg (by simpa using h2), if_neg (by simpa using h3)]
  repeat (first | refine yy ?_ | refine yx fun _ => ?_ | refine run_inLoop ?_)
  refine run_cond (t := false) rfl (fun h => by cases h) (fun _ => ?_)
  repeat (first | refine yy ?_ | refine yx fun _ => ?_)
  exact run_ret hC (rs := [.tmp 2]) rfl (resT rfl resN) (fun _ h => h.drop.drop.drop.drop) ⟨by rw [e]; rfl, rfl, rfl⟩
def rsAt (s : ByteArray) : Nat → Nat → List (Nat × Nat)
  | 0, _ => []
  | f + 1, p => if p < s.size then (p, (Utf8.decode s p).1) :: rsAt s f (p + (Utf8.decode s p).2) else []
def rsF (s : ByteArray) (p : Nat) : List (Nat × Nat) := rsAt s (s.size - p) p
def runesL (s : ByteArray) : List Nat := (rsF s 0).map Prod.snd
theorem rsAt_end (s : ByteArray) {p : Nat} (h : ¬ p < s.size) : ∀ f, rsAt s f p = []
  | 0 => rfl
  | f + 1 => by rw [rsAt, if_neg h]
theorem rsAt_fuel (s : ByteArray) : ∀ (f g p : Nat), s.size - p ≤ f → s.size - p ≤ g → rsAt s f p = rsAt s g p
  | 0, g, p, h, _ => by rw [rsAt_end s (by omega), rsAt_end s (by omega)]
  | f + 1, 0, p, _, h => by rw [rsAt_end s (by omega), rsAt_end s (by omega)]
  | f + 1, g + 1, p, h1, h2 => by
    rw [rsAt, rsAt]
    split
    · rename_i h
      have := decode_wide s h
      rw [rsAt_fuel s f g _ (by omega) (by omega)]
    · rfl
theorem rsF_lt {s : ByteArray} {p : Nat} (h : p < s.size) : rsF s p = (p, (Utf8.decode s p).1) :: rsF s (p + (Utf8.decode s p).2) := by
  have hw := decode_wide s h
  rw [rsF, show s.size - p = (s.size - p - 1) + 1 by omega, rsAt, if_pos h, rsF, rsAt_fuel s (s.size - p - 1) (s.size - (p + (Utf8.decode s p).2)) _ (by omega) (by omega)]
theorem rsF_ge {s : ByteArray} {p : Nat} (h : ¬ p < s.size) : rsF s p = [] := rsAt_end s h _
theorem rsF_len (s : ByteArray) : ∀ (k p : Nat), s.size - p ≤ k → (rsF s p).length ≤ s.size - p
  | 0, p, h => by rw [rsF_ge (by omega)]; exact Nat.zero_le _
  | k + 1, p, h => by
    by_cases hp : p < s.size
    · have hw := decode_wide s hp
      have := rsF_len s k (p + (Utf8.decode s p).2) (by omega)
      rw [rsF_lt hp, List.length_cons]; omega
    · rw [rsF_ge hp]; exact Nat.zero_le _
theorem runeCount_eq (s : ByteArray) : Go.Lib.runeCount s = (runesL s).length := by
  have key : ∀ f p, Go.Lib.runeCountFrom s f p = (rsAt s f p).length := by
    intro f
    induction f with
    | zero => intro p; rfl
    | succ f ih =>
      intro p
      rw [Go.Lib.runeCountFrom, rsAt]
      split
      · rw [ih, List.length_cons]; omega
      · rfl
  rw [Go.Lib.runeCount, key, runesL, List.length_map, rsF, Nat.sub_zero]
def oddR (r : Nat) : Bool := decide (ofR r = 0) && (decide ((r : Int) ≠ 45) && (decide ((r : Int) < 48) || decide ((r : Int) > 57)))
def fstF : List Nat → Int → Int → Int × Int
  | [], k, e => (k, e)
  | r :: l, k, e => if oddR r then (k, 7) else if k = 0 then fstF l (ofR r) e else if ofR r ≠ 0 ∧ ofR r ≠ k then fstF l k 50 else fstF l k e
def byteI (s : ByteArray) (i : Nat) : Int := ((s[i]?).getD 0).toNat
def firstN (s : ByteArray) : Int × Int :=
  if 24 < (runesL s).length then (0, 5) else if s.size = 0 ∨ byteI s 0 = 45 ∨ byteI s (s.size - 1) = 45 then (0, 7) else
  if (fstF (runesL s) 0 0).2 ≠ 0 then (0, (fstF (runesL s) 0 0).2) else ((fstF (runesL s) 0 0).1, 0)
end Go.Proofs.YtladcmfbkiogbaaGreatDoor
namespace Go.Chi
section
variable {P : Program} {T : TT} {ro : Option Nat} {σ : Env} {δ : Den} {cur : Path} {M : Mem} {L : HL} {d : Option Nat} {op : Op} {ty : TypeId} {pos : String} {aft : Array Edge} {g : Option (Nat × Bool)} {v : Value}
theorem qt_indexA (hT : TOk P T) {t : TypeId} {x y : Operand} {b off len : Nat} {k : IntKind} {n e s : Nat}
    (hx : ev σ δ cur x = some (.pointer (some ⟨b, off, none⟩))) (hy : ev σ δ cur y = some (.int k (n : Int))) (hu : und T t = some (.array len e)) (hi : sizeT T e = some s) (hb : Hy σ δ cur → n < len) :
    Qt P ro ⟨d, .indexAddr t x y, ty, pos, aft, g⟩ σ δ cur M L (.pointer (some ⟨b, off + n * s, none⟩)) :=
  qt_of_run (semAt_of (by intro c e; cases e)) fun a w hs hcur hp => by
    have h := hb (Hy_of hs hcur)
    simp [execOp, Instr.indexAt, Instr.sureAddr, ev_sound hs hcur hx, ev_sound hs hcur hy, asIntOf, run_und hT hu, run_sizeT hT hi, add_none, h]
theorem qt_sliceArr (hT : TOk P T) {t : TypeId} {x y : Operand} {b off len : Nat} {k : IntKind} {n e s : Nat}
    (hx : ev σ δ cur x = some (.pointer (some ⟨b, off, none⟩))) (hy : ev σ δ cur y = some (.int k (n : Int))) (hu : und T t = some (.array len e)) (hi : sizeT T e = some s) (hb : Hy σ δ cur → n < len) :
    Qt P ro ⟨d, .slice t x (some y) none none, ty, pos, aft, g⟩ σ δ cur M L (.slice (some ⟨b, off + n * s, none⟩) (len - n) (len - n)) :=
  qt_of_run (semAt_of (by intro c e; cases e)) fun a w hs hcur hp => by
    have h := hb (Hy_of hs hcur)
    have h1 : n ≤ len := by omega
    have h2 : ¬ len = n := by omega
    simp [execOp, Instr.sliceAt, Instr.sureAddr, Instr.sliceBounds, Instr.sliceBound, ev_sound hs hcur hx, ev_sound hs hcur hy, asIntOf, run_und hT hu, run_sizeT hT hi, add_none, h1, h2]
theorem qt_bytesStrO (hT : TOk P T) {s t e : TypeId} {x : Operand} {b o n c : Nat} (ns : List Int) (hs' : und T s = some (.slice e)) (he : und T e = some (.int .u8)) (hu : und T t = some .string) (hx : ev σ δ cur x = some (.slice (some ⟨b, o, none⟩) n c)) (hc : Cells M L b o (ns.map (Value.int .u8))) (hl : ns.length = n) :
    Qt P ro ⟨d, .convert s t x, ty, pos, aft, g⟩ σ δ cur M L (.string (bytesI ns)) :=
  qt_of_run (semAt_of (by intro c e; cases e)) fun a w hs hcur hp => by
    have h1 := run_loadCells (P := P) hp (ns.map (Value.int .u8)) [] (by simpa using hc)
    have h2 : (loadCells ⟨b, o, none⟩ n).run P w = .ok (ns.map (Value.int .u8)).toArray w := by
      simp only [List.length_nil, List.nil_append, List.length_map, hl] at h1
      exact h1
    have h3 := run_bytesToString w ⟨b, o, none⟩ n c ns h2
    have h4 := run_convert_bytes_string (P := P) w s t e (some ⟨b, o, none⟩) n c (und_ok hT hs') (und_ok hT he) (und_ok hT hu)
    simp only [execOp, ev_sound hs hcur hx, Sem.run_bind, h4, h3, Result.andThen_ok, Sem.run_pure]
    rfl
end
theorem bytesI_ext (ns : List Int) : ∀ r : ByteArray, (ns.foldl (fun r n => r.push (UInt8.ofNat n.toNat)) r).data.toList = r.data.toList ++ ns.map (fun n => UInt8.ofNat n.toNat) := by
  induction ns with
  | nil => intro r; simp
  | cons x ns ih => intro r; rw [List.foldl_cons, ih]; simp
theorem bytesI_list (ns : List Int) : (bytesI ns).data.toList = ns.map (fun n => UInt8.ofNat n.toNat) := by
  unfold bytesI
  rw [bytesI_ext]
  rfl
theorem bytesI_app (a b : List Int) : bytesI (a ++ b) = bytesI a ++ bytesI b := by
  apply ByteArray.ext
  apply Array.ext'
  simp [ByteArray.data_append, bytesI_list]
theorem setSeg_tail {cs : List Value} {k : Nat} (v : Value) (hk : k + 1 ≤ cs.length) : (setSeg cs k [v]).length = cs.length ∧ (setSeg cs k [v]).drop k = v :: cs.drop (k + 1) := by
  unfold setSeg
  constructor
  · simp; omega
  · rw [List.append_assoc, List.drop_append_of_le_length (by simp; omega), List.drop_eq_nil_of_le (by simp; omega)]
    simp
theorem Cells.tail {M : Mem} {L : HL} {b k : Nat} {cs xs : List Value} {et : TypeId} {fz : Nat × Nat} (hm : (b, Obj.cells ⟨cs⟩ et fz) ∈ L) (h : cs.drop k = xs) : Cells M L b k xs := by
  obtain ⟨cs', t', fz', hb, hc⟩ := cellsAll (M := M) hm
  refine ⟨cs', t', fz', hb, fun i v hv => hc (k + i) v ?_ |> fun h => by simpa using h⟩
  rw [← h, List.getElem?_drop] at hv
  exact hv
end Go.Chi
namespace Go.Chi
section
variable {P : Program} {T : TT} {ro : Option Nat} {σ : Env} {δ : Den} {cur : Path} {M : Mem} {L : HL} {d : Option Nat} {op : Op} {ty : TypeId} {pos : String} {aft : Array Edge} {g : Option (Nat × Bool)} {v : Value}
theorem st_makeSlice (hT : TOk P T) {t e by_ : Nat} {z : Value} {x y : Operand} {k k' : IntKind} (n : Nat) (ht : und T t = some (.slice e)) (hi : sizeT T e = some 1) (hz : zeroT T e = some z) (hzc : cellsL z = [z]) (hb : bytesT T e = some by_)
    (hx : ev σ δ cur x = some (.int k (n : Int))) (hy : ev σ δ cur y = some (.int k' (n : Int))) (hroom : by_ * n ≤ 281474976710656) (hn : n < 4611686018427387904) :
    St P ro ⟨d, .makeSlice t x y, ty, pos, aft, g⟩ σ δ cur M L (fun v' M' L' => ∃ b, v' = .slice (some ⟨b, 0, none⟩) n n ∧ M = M' ∧ L' = (b, .cells ⟨List.replicate n z⟩ e (0, 0)) :: L) := fun a w hs hcur hp => by
  obtain ⟨i, hi1, his⟩ := sizeT_ok hi
  obtain ⟨i2, hi2, hz2⟩ := zeroT_ok hz
  obtain ⟨i3, hi3, rfl⟩ := bytesT_ok hb
  rw [hi1] at hi2 hi3
  cases hi2
  cases hi3
  have hrun := run_make (P := P) w t e i z (und_ok hT ht) (hT.info _ _ hi1) hz2 k k' n n (by omega) (Int.le_refl _) (by
    have h : ((i.bytes * n : Nat) : Int) ≤ 281474976710656 := by omega
    rwa [Int.natCast_mul] at h) (by omega)
  have hcells : madeCells z.cells (n * i.size) = ⟨List.replicate n z⟩ := by
    have : z.cells = #[z] := by apply Array.ext'; rw [cellsL_eq]; exact hzc
    rw [his, Nat.mul_one, this]
    exact Array.ext' (toList_madeCells_one z n)
  simp only [Int.toNat_natCast, hcells] at hrun
  refine opWp_value (v := .slice (some ⟨w.heap.size, 0, none⟩) n n) (w' := w.alloc (.cells ⟨List.replicate n z⟩ e)) ?_ ⟨M, _, hp.push _, _, rfl, rfl, rfl⟩
  rw [semAt_of (by intro c e; cases e)]
  simp only [execOp, ev_sound hs hcur hx, ev_sound hs hcur hy, Sem.run_bind, hrun, Result.andThen_ok, Sem.run_pure]
end
section
variable {P : Program} {ro : Option Nat} {o : Oper} {σ : Env} {δ : Den} {cur : Path} {M : Mem} {L : HL}
theorem qt_dead {s : Nat} {b b' : Bool} {v : Value} (hl : lka σ δ cur s = some (.bool b')) (hs : (s, b) ∈ cur) (hne : b' ≠ b) : Qt P ro o σ δ cur M L v := fun a w h1 h2 h3 => by
  have e1 := lka_sound h1 h2 hl
  have e2 := h2 _ hs
  rw [e1] at e2
  injection e2 with e2
  injection e2 with e2
  exact absurd e2 hne
theorem St.frz {K K' : Value → Mem → HL → Prop} (h : St P ro o σ δ cur M L K) (hk : ∀ v M' L' w, Hp M' L' w → K v M' L' → ∃ M'' L'', Hp M'' L'' w ∧ K' v M'' L'') : St P ro o σ δ cur M L K' :=
  fun a w h1 h2 h3 => (h a w h1 h2 h3).mono fun _ _ ⟨_, _, h4, h5⟩ => hk _ _ _ _ h4 h5
end
section
variable {P : Program} {C : Cx} {n : Nat} {k : List Item} {ds : List Deferred} {σ : Env} {δ : Den} {M : Mem} {L : HL} {ops : Array Oper} {X : List Nat}
end
end Go.Chi
namespace Go.Chi
section
variable {P : Program} {T : TT} {ro : Option Nat} {σ : Env} {δ : Den} {cur : Path} {M : Mem} {L : HL} {d : Option Nat} {op : Op} {ty : TypeId} {pos : String} {aft : Array Edge} {g : Option (Nat × Bool)} {v : Value}
def bC (l : List UInt8) : List Value := l.map fun b => .int .u8 (b.toNat : Int)
end
end Go.Chi
namespace Go.Chi
section
variable {P : Program} {T : TT} {ro : Option Nat} {σ : Env} {δ : Den} {cur : Path} {M : Mem} {L : HL} {d : Option Nat} {op : Op} {ty : TypeId} {pos : String} {aft : Array Edge} {g : Option (Nat × Bool)} {v : Value}
theorem st_appendX' (hT : TOk P T) {s x : Operand} {t t2 e : TypeId}  {i : TypeInfo} {z : Value} {n m : Nat} {xs news : List Value} {xv : Value} {N L0 : HL}
    (hs : ev σ δ cur s = some v) (hx : ev σ δ cur x = some xv) (ht : und T t = some (.slice e)) (hi : tlk T e = some i) (hz : i.zero = some z) (hzs : (cellsL z).length = i.size) (hby : i.bytes ≠ 0)
    (hL : L.Perm (N ++ L0)) (ho : OS e i.size v n xs N) (ht2 : und T t2 = some .string) (hfst : ∀ w, Hp M L w → (Builtin.firstCells i.size m xv).run P w = .ok ⟨news⟩ w) (hlx : ∀ w, (Builtin.lenOf xv).run P w = .ok m w) (hnl : news.length = m * i.size) (h1 : ∀ u ∈ news, u.oneCell' = true) (hroom : (2 * (n + m) + 192) * i.bytes ≤ 281474976710656) (h63 : n + m < 9223372036854775808) :
    St P ro ⟨d, .call ⟨.builtin .append, #[s, x], #[t, t2]⟩, ty, pos, aft, g⟩ σ δ cur M L (fun v' M' L' => ∃ N', M = M' ∧ L' = N' ++ L0 ∧ OS e i.size v' (n + m) (xs ++ news) N') := fun a w hse hcur hp => by
  have hlen := ho.len
  have hes := ev_sound hse hcur hs
  have hex := ev_sound hse hcur hx
  have hp' := hp.perm hL
  have hfirst := hfst w hp
  -- the slice, its base and capacity
  obtain ⟨base, cap, rfl⟩ : ∃ base cap, v = .slice base n cap := by
    rcases ho with ⟨rfl, rfl, _⟩ | ⟨b, cap, cs, rfl, _⟩
    · exact ⟨none, 0, rfl⟩
    · exact ⟨_, cap, rfl⟩
  have hexec : ∀ (r : Result Value), (Builtin.append_ #[t, t2] ty #[.slice base n cap, xv]).run P w = r → (execOp a.eval ⟨d, .call ⟨.builtin .append, #[s, x], #[t, t2]⟩, ty, pos, aft, g⟩).run P w = r.andThen fun v w' => .ok (.value v) w' := fun r hr => by
    simp only [execOp, resolve, Sem.run_bind, Sem.run_pure, Result.andThen_ok, invoke, builtin, List.map_toArray, List.map_cons, List.map_nil, hes, hex, hr]
  have hund := run_und hT ht
  have hund2 := run_und hT ht2
  by_cases hcap : n + m ≤ cap
  · -- in place
    rcases ho with ⟨hv, rfl, rfl, rfl⟩ | ⟨b, cap', cs, hv, rfl, hle, hcl, hxs⟩
    · injection hv with e1 e2 e3
      subst e1 e3
      have hm0 : m = 0 := by omega
      subst hm0
      have hn0 : news = [] := List.length_eq_zero_iff.1 (by simpa using hnl)
      subst hn0
      refine opWp_value (v := .slice none 0 0) (w' := w) ?_ ⟨M, L0, by simpa using hp', [], rfl, by simp, .inl ⟨rfl, rfl, by simp, rfl⟩⟩
      rw [semAt_of (by intro c e; cases e), hexec (.ok (.slice none 0 0) w)]
      · rfl
      · simp [Builtin.append_, hund, hund2, run_size hT hi, hlx, hfirst]
    · injection hv with e1 e2 e3
      subst e1 e3
      have hb : w.heap[b]? = some (.cells ⟨cs⟩ e (0, 0)) := hp'.own (b, .cells ⟨cs⟩ e (0, 0)) (by simp)
      have hle2 : n * i.size + news.length ≤ cs.length := by rw [hnl, hcl, ← Nat.add_mul]; exact Nat.mul_le_mul_right _ hcap
      have hrun := run_storeCells_at (P := P) b (n * i.size) e news 0 ⟨cs⟩ w hb (by simpa using hle2) h1
      simp only [Nat.add_zero] at hrun
      refine opWp_value (v := .slice (some ⟨b, 0, none⟩) (n + m) cap) (w' := w.setRow b ⟨setSeg cs (n * i.size) news⟩) ?_ ⟨M, (b, .cells ⟨setSeg cs (n * i.size) news⟩ e (0, 0)) :: L0, ?_, [(b, .cells ⟨setSeg cs (n * i.size) news⟩ e (0, 0))], rfl, rfl, .inr ⟨b, cap, _, rfl, rfl, hcap, ?_, ?_⟩⟩
      · rw [semAt_of (by intro c e; cases e), hexec (.ok (.slice (some ⟨b, 0, none⟩) (n + m) cap) (w.setRow b ⟨setSeg cs (n * i.size) news⟩))]
        · rfl
        · simp only [Builtin.append_, Sem.run_bind, run_size hT hi, hlx, hfirst, Result.andThen_ok, hund, hund2, hcap, if_true, Sem.run_pure, Bool.false_eq_true, if_false, Bool.not_false, List.getElem?_toArray, List.getElem?_cons_zero, List.getElem?_cons_succ, add_none, Nat.zero_add, hrun]
          simp [setSeg]
      · exact hp'.setRow (Upd.here _ _ _ _)
      · simp [setSeg]; omega
      · rw [Nat.add_mul, ← hnl]
        have hx' : xs.length = n * i.size := hlen
        unfold setSeg
        rw [hxs, List.take_append_of_le_length (by simp; omega)]
        rw [← hx', ← List.length_append]
        exact List.take_length
  · -- a new array
    have hold : ∀ w, Hp M L w → (Builtin.firstCells i.size n (.slice base n cap)).run P w = .ok ⟨xs⟩ w := fun w hw => by
      refine run_firstCells hw ?_
      rcases ho with ⟨hv, rfl, rfl, rfl⟩ | ⟨b, cap', cs, hv, rfl, hle, hcl, hxs⟩
      · exact .inl ⟨none, 0, hv, rfl, rfl⟩
      · refine .inr ⟨b, 0, cap, ?_, ?_, hlen⟩
        · injection hv with e1 e2 e3; rw [e1]
        · refine ⟨⟨cs⟩, e, (0, 0), .inl (hL.mem_iff.2 (by simp)), fun j u hu => ?_⟩
          rw [← hxs, List.getElem?_take] at hu
          split at hu
          · simpa using hu
          · cases hu
    have hlt : cap < n + m := by omega
    have hnext : ¬ Builtin.nextslicecap (n + m) cap * i.bytes > 2 ^ 48 := by
      have h2 := Nat.mul_le_mul_right i.bytes (nextcap_le hlt)
      have : (2 : Nat) ^ 48 = 281474976710656 := by decide
      omega
    obtain ⟨nc, hnc, hnc2⟩ : ∃ nc, nc = (Question.appendCap (n + m) cap e).cut (w.tape w.drawn (.appendCap (n + m) cap e)) ∧ n + m ≤ nc := ⟨_, rfl, by simp [Question.cut]⟩
    have hd := hp.drawn (w.drawn + 1)
    have hfirst' := hfst _ hd
    have hold' := hold _ hd
    let nb : Array Value := ⟨xs⟩ ++ ⟨news⟩ ++ Builtin.zeroCells z.cells (nc - (n + m))
    have hnb : nb = ⟨nb.toList⟩ := rfl
    have hpush := hd.push (.cells nb e (0, 0))
    refine opWp_value (v := .slice (some ⟨w.heap.size, 0, none⟩) (n + m) nc) (w' := { w with drawn := w.drawn + 1, heap := w.heap.push (.cells nb e (0, 0)) }) ?_ ⟨M, (w.heap.size, .cells nb e (0, 0)) :: L0, ?_, [(w.heap.size, .cells nb e (0, 0))], rfl, rfl, .inr ⟨w.heap.size, nc, nb.toList, rfl, rfl, hnc2, ?_, ?_⟩⟩
    · rw [semAt_of (by intro c e; cases e), hexec (.ok (.slice (some ⟨w.heap.size, 0, none⟩) (n + m) nc) { w with drawn := w.drawn + 1, heap := w.heap.push (.cells nb e (0, 0)) })]
      · rfl
      · have hbz : ¬ (i.bytes = 0) := hby
        simp only [Builtin.append_, Sem.run_bind, run_size hT hi, hlx, Result.andThen_ok, hund, hund2, hcap, if_false, Sem.run_pure, Bool.false_eq_true, Bool.not_false, if_true, List.getElem?_toArray, List.getElem?_cons_zero, List.getElem?_cons_succ, run_info hT hi, hbz, or_self, and_false, Sem.run_ite, hnext, run_choose, Question.forced, run_askRoom, ← hnc, hold', hfirst', zeroValue, hz]
        rfl
    · have h3 : Hp M ((w.heap.size, .cells nb e (0, 0)) :: (N ++ L0)) { w with drawn := w.drawn + 1, heap := w.heap.push (.cells nb e (0, 0)) } := hpush.perm (List.Perm.cons _ hL)
      have h4 : Hp M (N ++ ((w.heap.size, .cells nb e (0, 0)) :: L0)) { w with drawn := w.drawn + 1, heap := w.heap.push (.cells nb e (0, 0)) } := h3.perm (by simpa using List.perm_middle.symm)
      exact h4.dropAll
    · have hzc : z.cells.size = i.size := by rw [cellsL_eq]; exact hzs
      have : nb.toList.length = xs.length + news.length + (nc - (n + m)) * i.size := by
        rw [Array.length_toList]
        show ((⟨xs⟩ : Array Value) ++ ⟨news⟩ ++ Builtin.zeroCells z.cells (nc - (n + m))).size = _
        rw [Array.size_append, Array.size_append, zeroCells_size, hzc]
        rfl
      rw [this, hlen, hnl, ← Nat.add_mul, ← Nat.add_mul]
      congr 1; omega
    · have : nb.toList = (xs ++ news) ++ (Builtin.zeroCells z.cells (nc - (n + m))).toList := by simp [nb]
      rw [this]
      have hl2 : (xs ++ news).length = (n + m) * i.size := by rw [List.length_append, hlen, hnl, Nat.add_mul]
      rw [← hl2, List.take_left']
      rfl
theorem st_appendS (hT : TOk P T) {s x : Operand} {t t2 e sz by_ : Nat} {z : Value} {n : Nat} {xs : List Value} {str : ByteArray} {N L0 : HL}
    (hs : ev σ δ cur s = some v) (hx : ev σ δ cur x = some (.string str)) (ht : und T t = some (.slice e)) (ht2 : und T t2 = some .string) (hi : sizeT T e = some sz) (h1z : sz = 1) (hz : zeroT T e = some z) (hzs : (cellsL z).length = sz) (hb : bytesT T e = some by_) (hby : Nat.ble 1 by_ = true)
    (hL : L.Perm (N ++ L0)) (ho : OS e sz v n xs N) (hroom : (2 * (n + str.size) + 192) * by_ ≤ 281474976710656) (h63 : n + str.size < 9223372036854775808) :
    St P ro ⟨d, .call ⟨.builtin .append, #[s, x], #[t, t2]⟩, ty, pos, aft, g⟩ σ δ cur M L (fun v' M' L' => ∃ N', M = M' ∧ L' = N' ++ L0 ∧ OS e sz v' (n + str.size) (xs ++ bC str.data.toList) N') := by
  obtain ⟨i, hi1, rfl⟩ := sizeT_ok hi
  obtain ⟨i2, hi2, hz2⟩ := zeroT_ok hz
  obtain ⟨i3, hi3, rfl⟩ := bytesT_ok hb
  rw [hi1] at hi2 hi3
  cases hi2
  cases hi3
  have hlen : (bC str.data.toList).length = str.size * i.size := by rw [h1z, Nat.mul_one]; simp [bC]
  refine st_appendX' hT hs hx ht hi1 hz2 hzs (by have := Nat.le_of_ble_eq_true hby; omega) hL ho ht2 (fun w _ => ?_) (fun w => ?_) hlen (fun u hu => ?_) hroom h63
  · have e : (str.extract 0 str.size).data.toList = str.data.toList := by
      simp
    simp only [Builtin.firstCells, Sem.run_pure]
    congr 1
    apply Array.ext'
    simp only [bC, Array.toList_map]
    rw [e]
  · simp [Builtin.lenOf]
  · obtain ⟨b, _, rfl⟩ := List.mem_map.1 hu; rfl
theorem qt_sliceData {x : Operand} {t : TypeId} {a : Addr} {n c : Nat} (hx : ev σ δ cur x = some (.slice (some a) n c)) (hc : c ≠ 0) :
    Qt P ro ⟨d, .call ⟨.builtin .unsafeSliceData, #[x], #[t]⟩, ty, pos, aft, g⟩ σ δ cur M L (.pointer (some a)) :=
  qt_of_run (semAt_of (by intro c e; cases e)) fun a' w hs hcur hp => by
    have hex := ev_sound hs hcur hx
    have := Lib.run_unsafeSliceData_row (P := P) w #[t] ty a n c hc
    simp only [execOp, resolve, Sem.run_bind, Sem.run_pure, Result.andThen_ok, invoke, builtin, List.map_toArray, List.map_cons, List.map_nil, hex, this]
def frzN (fz : Nat × Nat) (n : Nat) : Nat × Nat := if fz.1 == fz.2 then (0, n) else (min fz.1 0, max fz.2 n)
theorem st_unsafeString (hT : TOk P T) {x y : Operand} {pt it e b n : Nat} {cs : List Value} {fz : Nat × Nat} {l : List UInt8} {L' : HL} (hpt : und T pt = some (.pointer e)) (hc : sizeT T e = some 1) (hx : ev σ δ cur x = some (.pointer (some ⟨b, 0, none⟩))) (hy : ev σ δ cur y = some (.int .i64 (n : Int)))
    (hl : l.length = n) (h0 : n ≠ 0) (h63 : n ≤ 9223372036854775807) (hcs : cs.take n = bC l) (hu : Upd L b (.cells ⟨cs⟩ e fz) (.cells ⟨cs⟩ e (frzN fz n)) L') :
    St P ro ⟨d, .call ⟨.builtin .unsafeString, #[x, y], #[pt, it]⟩, ty, pos, aft, g⟩ σ δ cur M L (fun v M' L1 => M = M' ∧ L1 = L' ∧ v = .string ⟨l.toArray⟩) := fun a w hse hcur hp => by
  have hex := ev_sound hse hcur hx
  have hey := ev_sound hse hcur hy
  have hb := hp.own _ hu.mem
  have hb : w.heap[b]? = some (.cells ⟨cs⟩ e fz) := hb
  have hlt := (Array.getElem?_eq_some_iff.1 hb).1
  have hle : n ≤ cs.length := by
    have := congrArg List.length hcs
    rw [List.length_take] at this
    simp only [bC, List.length_map, hl] at this
    omega
  obtain ⟨i, hi1, hi2⟩ := sizeT_ok hc
  have hce : P.cellsOf e = 1 := by
    unfold Program.cellsOf
    rw [hT.info _ _ hi1]
    simpa using hi2
  subst hl
  have hrun := Lib.run_unsafeString_row (P := P) w pt it ty e (und_ok hT hpt) hce b cs.length (by simp [World.shape?, hb]) l (by rintro rfl; exact h0 rfl) hle h63 fun j u hj => by
    have hjl := (List.getElem?_eq_some_iff.1 hj).1
    have h1 : (cs.take l.length)[j]? = some (.int .u8 (u.toNat : Int)) := by rw [hcs]; simp [bC, hj]
    rw [List.getElem?_take, if_pos hjl] at h1
    have e2 : (⟨b, 0, none⟩ : Addr).add j = ⟨b, j, none⟩ := by
      unfold Addr.add
      split <;> simp_all
    rw [e2]
    simp [World.cell?, hb, h1]
  refine opWp_value (v := .string ⟨l.toArray⟩) (w' := w.freeze ⟨b, 0, none⟩ l.length) ?_ ⟨M, L', ?_, rfl, rfl, rfl⟩
  · rw [semAt_of (by intro c e; cases e)]
    simp only [execOp, resolve, Sem.run_bind, Sem.run_pure, Result.andThen_ok, invoke, builtin, List.map_toArray, List.map_cons, List.map_nil, hex, hey, hrun]
  · refine hp.upd hu ?_ ?_ ?_ ?_ ?_
    · unfold World.freeze; rw [if_neg h0]
    · unfold World.freeze; rw [if_neg h0]
    · unfold World.freeze; rw [if_neg h0]
    · unfold World.freeze
      rw [if_neg h0]
      show (w.heap.modify b _)[b]? = _
      rw [Array.getElem?_modify, if_pos rfl, hb]
      obtain ⟨lo, hi⟩ := fz
      simp [frzN]
    · intro k hk
      unfold World.freeze
      rw [if_neg h0]
      show (w.heap.modify b _)[k]? = _
      rw [Array.getElem?_modify, if_neg (Ne.symm hk)]
theorem qt_toUnsafe (hT : TOk P T) {x : Operand} {src dst t e b sz : Nat} {cs : List Value} {fz : Nat × Nat} (hs : und T src = some (.pointer t)) (hd : und T dst = some .unsafePointer) (ht : sizeT T t = some sz) (hsz : Nat.beq sz 0 = false)
    (hx : ev σ δ cur x = some (.pointer (some ⟨b, 0, none⟩))) (hm : (b, Obj.cells ⟨cs⟩ e fz) ∈ L) (h0 : Nat.blt 0 cs.length = true) : Qt P ro ⟨d, .convert src dst x, ty, pos, aft, g⟩ σ δ cur M L (.pointer (some ⟨b, 0, none⟩)) :=
  qt_of_run (semAt_of (by intro c e; cases e)) fun a' w hse hcur hp => by
    have hex := ev_sound hse hcur hx
    obtain ⟨i, hi, rfl⟩ := sizeT_ok ht
    have hb : w.heap[b]? = some (.cells ⟨cs⟩ e fz) := hp.own _ hm
    have := Lib.run_to_unsafe (P := P) w ⟨b, 0, none⟩ (und_ok hT hs) (und_ok hT hd) (hT.info _ _ hi) (by intro h; rw [h] at hsz; cases hsz) (show w.shape? b = some (e, cs.length) by simp [World.shape?, hb]) (by simpa using h0)
    simp only [execOp, Sem.run_bind, Sem.run_pure, Result.andThen_ok, hex, this]
theorem qt_fromUnsafe (hT : TOk P T) {x : Operand} {src dst u e b sz : Nat} {cs : List Value} {fz : Nat × Nat} (hs : und T src = some .unsafePointer) (hd : und T dst = some (.pointer u)) (hu : sizeT T u = some sz)
    (hx : ev σ δ cur x = some (.pointer (some ⟨b, 0, none⟩))) (hm : (b, Obj.cells ⟨cs⟩ e fz) ∈ L) (hl : liesAt P P.depth e (cs.length / P.cellsOf e) 0 u 1 = true) : Qt P ro ⟨d, .convert src dst x, ty, pos, aft, g⟩ σ δ cur M L (.pointer (some ⟨b, 0, none⟩)) :=
  qt_of_run (semAt_of (by intro c e; cases e)) fun a' w hse hcur hp => by
    have hex := ev_sound hse hcur hx
    obtain ⟨i, hi, _⟩ := sizeT_ok hu
    have hb : w.heap[b]? = some (.cells ⟨cs⟩ e fz) := hp.own _ hm
    have := Lib.run_from_unsafe (P := P) w ⟨b, 0, none⟩ (und_ok hT hs) (und_ok hT hd) (hT.info _ _ hi) (show w.shape? b = some (e, cs.length) by simp [World.shape?, hb]) hl
    simp only [execOp, Sem.run_bind, Sem.run_pure, Result.andThen_ok, hex, this]
theorem qt_neqPtr (hT : TOk P T) {x y : Operand} {tp t te sz : Nat} {a : Addr} (ht : und T tp = some (.pointer te)) (hs : sizeT T te = some sz) (hx : ev σ δ cur x = some (.pointer (some a))) (hy : ev σ δ cur y = some (.pointer (some a))) :
    Qt P ro ⟨d, .binOp .neq tp x y t, ty, pos, aft, g⟩ σ δ cur M L (.bool false) :=
  qt_of_run (semAt_of (by intro c e; cases e)) fun a' w hse hcur hp => by
    have hex := ev_sound hse hcur hx
    have hey := ev_sound hse hcur hy
    obtain ⟨i, hi, _⟩ := sizeT_ok hs
    have := Lib.run_neq_ptr_same (P := P) w a (und_ok hT ht) (hT.info _ _ hi)
    have hg : (eqGuard .neq tp x y (.pointer (some a)) (.pointer (some a))).run P w = .ok () w := by simp [eqGuard]
    simp only [execOp, Sem.run_bind, Sem.run_pure, Result.andThen_ok, hex, hey, this, hg]
end
end Go.Chi
namespace Go.Proofs.YtladcmfbkiogbaaGreatDoor
open Go.Chi
set_option maxRecDepth 10000
abbrev bdO (p v : Value) : Obj := .cells ⟨[p, v]⟩ 68 (0, 0)
theorem copyCheck_ok (M : Mem) (L L' : HL) (b : Nat) (p v : Value) (hp : p = .pointer none ∨ p = pt b) (hu : Upd L b (bdO p v) (bdO (pt b) v) L') :
    Tr Tryz.prog 108 [pt b] M L (fun _ M' L1 => M = M' ∧ L1 = L') := by
  refine Tr.intro 20 Tryz.func108 rfl rfl Tryz.call108 rfl ?_; intro C hC hro
  rcases hp with rfl | rfl
  · repeat (first | refine zz ?_ | refine zx fun _ => ?_ | refine rq (qt_ld tok rfl hu.mem rfl) ?_)
    refine run_cond rfl (fun _ => ?_) (fun h => by cases h)
    repeat (first | refine zz ?_ | refine zx fun _ => ?_ | refine rq (qt_toUnsafe tok rfl rfl rfl rfl rfl hu.mem rfl) ?_ | refine rq (qt_callX Tryz.func135 (by kernel_rfl) (by kernel_rfl) (by kernel_rfl) (e := Extern.AbiNoEscape.same) (by kernel_rfl) rfl (fun w => rfl)) ?_ | refine rq (qt_fromUnsafe tok rfl rfl rfl rfl hu.mem (by kernel_rfl)) ?_ | refine ws ?_ rfl rfl rfl rfl rfl hu rfl)
    exact run_end hC rfl (vs := []) trivial (fun _ h => h) ⟨rfl, rfl⟩
  · have hl : L' = L := by
      obtain ⟨A, B, rfl, rfl⟩ := hu; rfl
    subst hl
    repeat (first | refine zz ?_ | refine zx fun _ => ?_ | refine rq (qt_ld tok rfl hu.mem rfl) ?_)
    refine run_cond rfl (fun h => by cases h) (fun _ => ?_)
    repeat (first | refine zz ?_ | refine zx fun _ => ?_ | refine rq (qt_ld tok rfl hu.mem rfl) ?_ | refine rq (qt_neqPtr tok rfl rfl rfl rfl) ?_)
    refine run_cond rfl (fun h => by cases h) (fun _ => ?_)
    repeat (first | refine zz ?_ | refine zx fun _ => ?_)
    exact run_end hC rfl (vs := []) trivial (fun _ h => h) ⟨rfl, rfl⟩
def BdS (v : Value) (l : List UInt8) (N : HL) : Prop := OS 5 1 v l.length (bC l) N
theorem bdS_nil : BdS (.slice none 0 0) [] [] := OS.nil _ _
theorem osH {e size n : Nat} {v : Value} {xs : List Value} {N : HL} (h : OS e size v n xs N) : ∃ a cap, v = .slice a n cap := by
  rcases h with ⟨rfl, rfl, _⟩ | ⟨b, cap, cs, rfl, _⟩
  · exact ⟨none, 0, rfl⟩
  · exact ⟨_, cap, rfl⟩
theorem bWrite1_ok (M : Mem) (R N : HL) (b : Nat) (p v : Value) (l : List UInt8) (s : ByteArray) (hp : p = .pointer none ∨ p = pt b) (hO : BdS v l N) (hz : l.length + s.size < 1099511627776) :
    Tr Tryz.prog 59 [pt b, .string s] M ((b, bdO p v) :: (N ++ R)) (fun _ M' L1 => M = M' ∧ ∃ v' N', L1 = N' ++ ((b, bdO (pt b) v') :: R) ∧ BdS v' (l ++ s.data.toList) N') := by
  unfold BdS at hO
  obtain ⟨av, cv, rfl⟩ := osH hO
  refine Tr.intro 19 Tryz.func59 rfl rfl Tryz.call59 rfl ?_; intro C hC hro
  repeat (first | refine zz ?_ | refine zx fun _ => ?_ | (refine ro (st_callF rfl (fun _ => copyCheck_ok _ _ _ b p _ hp (Upd.here _ _ _ _))) ?_; rintro _ _ _ ⟨rfl, rfl⟩) | (refine ro (st_appendS (n := l.length) (str := s) tok rfl rfl rfl rfl rfl rfl rfl rfl rfl rfl (List.perm_middle (l₁ := N)).symm hO (by omega) (by omega)) ?_; rintro va _ _ ⟨N', rfl, rfl, hO'⟩; obtain ⟨a2, c2, rfl⟩ := osH hO'))
  exact run_ret hC (rs := [.tmp 4, .tmp 5]) rfl (resT rfl (resT rfl resN)) (fun _ h => h) ⟨rfl, _, N', rfl, by
    unfold BdS
    rw [show bC (l ++ s.data.toList) = bC l ++ bC s.data.toList by unfold bC; rw [List.map_append], List.length_append]
    simpa using hO'⟩
theorem bWrite_ok (M : Mem) (L R N : HL) (b : Nat) (p v : Value) (l : List UInt8) (s : ByteArray) (hL : L.Perm ((b, bdO p v) :: (N ++ R))) (hp : p = .pointer none ∨ p = pt b) (hO : BdS v l N) (hz : l.length + s.size < 1099511627776) :
    Tr Tryz.prog 59 [pt b, .string s] M L (fun _ M' L1 => M = M' ∧ ∃ v' N', L1 = N' ++ ((b, bdO (pt b) v') :: R) ∧ BdS v' (l ++ s.data.toList) N') :=
  Tr.perm (bWrite1_ok M R N b p v l s hp hO hz) hL fun _ _ _ h => ⟨_, List.Perm.refl _, h⟩
theorem bLen_ok (M : Mem) (L : HL) (b : Nat) (p : Value) (a : Option Addr) (n c : Nat) (hm : (b, bdO p (.slice a n c)) ∈ L) : TrQ Tryz.prog 60 [pt b] M L (iv n) := by
  refine Tr.intro 8 Tryz.func60 rfl rfl Tryz.call60 rfl ?_; intro C hC hro
  repeat (first | refine zz ?_ | refine zx fun _ => ?_ | refine rq (qt_ld tok rfl hm rfl) ?_)
  exact run_ret hC (rs := [.tmp 2]) rfl (resT rfl resN) (fun _ h => h) ⟨rfl, rfl, rfl⟩
def BdF (v : Value) (l : List UInt8) (N : HL) : Prop := ∃ b cap cs fz, v = .slice (some ⟨b, 0, none⟩) l.length cap ∧ N = [(b, .cells ⟨cs⟩ 5 fz)] ∧ l.length ≤ cap ∧ cs.take l.length = bC l
theorem BdS.f {v : Value} {l : List UInt8} {N : HL} (h : BdS v l N) (h0 : l ≠ []) : BdF v l N := by
  rcases h with ⟨_, h, _⟩ | ⟨b, cap, cs, rfl, rfl, h1, h2, h3⟩
  · exact absurd (List.length_eq_zero_iff.1 h) h0
  · exact ⟨b, cap, cs, _, rfl, rfl, h1, by simpa using h3⟩
theorem bString1_ok (M : Mem) (R N : HL) (b : Nat) (p v : Value) (l : List UInt8) (hO : BdF v l N) (h0 : l ≠ []) (hz : l.length < 1099511627776) :
    Tr Tryz.prog 36 [pt b] M ((b, bdO p v) :: (N ++ R)) (fun w M' L1 => M = M' ∧ w = .string ⟨l.toArray⟩ ∧ ∃ N', L1 = (b, bdO p v) :: (N' ++ R) ∧ BdF v l N') := by
  obtain ⟨b2, cap, cs, fz, rfl, rfl, h1, h2⟩ := hO
  have hl0 : l.length ≠ 0 := fun h => h0 (List.length_eq_zero_iff.1 h)
  refine Tr.intro 14 Tryz.func36 rfl rfl Tryz.call36 rfl ?_; intro C hC hro
  repeat (first | refine zz ?_ | refine zx fun _ => ?_ | refine dd ?_ | refine dz ?_ | refine dx fun _ => ?_ | refine pq rfl (qt_sliceData rfl (by omega)) ?_ | (refine pe rfl (st_unsafeString tok rfl rfl rfl rfl rfl hl0 (by omega) h2 (Upd.there _ (Upd.here _ _ _ _))) ?_; rintro _ _ _ ⟨rfl, rfl, rfl⟩))
  exact run_ret hC (rs := [.tmp 2]) rfl (resT rfl resN) (fun _ h => h) ⟨rfl, rfl, _, rfl, b2, cap, cs, _, rfl, rfl, h1, h2⟩
theorem bString_ok (M : Mem) (L R N : HL) (b : Nat) (p v : Value) (l : List UInt8) (hL : L.Perm ((b, bdO p v) :: (N ++ R))) (hO : BdF v l N) (h0 : l ≠ []) (hz : l.length < 1099511627776) :
    Tr Tryz.prog 36 [pt b] M L (fun w M' L1 => M = M' ∧ w = .string ⟨l.toArray⟩ ∧ ∃ N', L1 = (b, bdO p v) :: (N' ++ R) ∧ BdF v l N') :=
  Tr.perm (bString1_ok M R N b p v l hO h0 hz) hL fun _ _ _ h => ⟨_, List.Perm.refl _, h⟩
theorem bStr_ok (M : Mem) (L R N : HL) (b : Nat) (p v : Value) (s : ByteArray) (hL : L.Perm ((b, bdO p v) :: (N ++ R))) (hO : BdF v s.data.toList N) (h0 : 1 ≤ s.size) (hz : s.size < 1099511627776) :
    Tr Tryz.prog 36 [pt b] M L (fun w M' L1 => M = M' ∧ w = .string s ∧ ∃ N', L1 = (b, bdO p v) :: (N' ++ R) ∧ BdF v s.data.toList N') := by
  have hl := ba_len s
  refine (bString_ok M L R N b p v _ hL hO (fun h => by rw [h] at hl; simp at hl; omega) (by omega)).mono ?_
  rintro w M' L' ⟨h1, rfl, h2⟩
  exact ⟨h1, rfl, h2⟩
end Go.Proofs.YtladcmfbkiogbaaGreatDoor
namespace Go.Chi
theorem st_app1 {P : Program} {T : TT} {ro : Option Nat} {σ : Env} {δ : Den} {M : Mem} {L0 N : HL} {d : Option Nat} {ty : TypeId} {pos : String} {aft : Array Edge} {g : Option (Nat × Bool)} {cur : Path} {x y : Operand} {t e e2 sz by_ n b c0 : Nat} {a0 : Option Addr} {z : Value} {xs news : List Value} {fz : Nat × Nat}
    (hT : TOk P T) (hx : ev σ δ cur x = some (.slice a0 n c0)) (hy : ev σ δ cur y = some (.slice (some ⟨b, 0, none⟩) 1 1)) (ht : und T t = some (.slice e)) (hi : sizeT T e = some sz) (hz : zeroT T e = some z) (hzs : (cellsL z).length = sz) (hb : bytesT T e = some by_) (hby : Nat.ble 1 by_ = true)
    (hO : OS e sz (.slice a0 n c0) n xs N) (hn : news.length = sz) (h1 : ∀ u ∈ news, u.oneCell' = true) (hroom : (2 * (n + 1) + 192) * by_ ≤ 281474976710656) (h63 : n + 1 < 9223372036854775808) :
    St P ro ⟨d, .call ⟨.builtin .append, #[x, y], #[t, t]⟩, ty, pos, aft, g⟩ σ δ cur M ((b, .cells ⟨news⟩ e2 fz) :: (N ++ L0)) (fun v M' L' => M = M' ∧ ∃ N' a c, v = .slice a (n + 1) c ∧ L' = N' ++ L0 ∧ OS e sz (.slice a (n + 1) c) (n + 1) (xs ++ news) N') := by
  refine St.frz (st_append (news := news) (m := 1) (N := N) (L0 := (b, .cells ⟨news⟩ e2 fz) :: L0) hT hx hy ht hi hz hzs hb hby (List.perm_middle (l₁ := N)).symm hO (.inr ⟨b, 0, 1, rfl, cellsAll List.mem_cons_self, by rw [hn, Nat.one_mul]⟩) h1 hroom h63) ?_
  rintro v M' L' w hw ⟨N', rfl, rfl, hO'⟩
  have hv : ∃ a c, v = .slice a (n + 1) c := by
    rcases hO' with ⟨rfl, h0, _⟩ | ⟨b', cap, cs, rfl, _⟩
    · omega
    · exact ⟨_, cap, rfl⟩
  obtain ⟨a, c, rfl⟩ := hv
  exact ⟨M, _, (hw.perm (List.perm_middle (l₁ := N'))).drop, rfl, N', a, c, rfl, rfl, hO'⟩
theorem st_appN {P : Program} {T : TT} {ro : Option Nat} {σ : Env} {δ : Den} {M : Mem} {L0 N : HL} {d : Option Nat} {ty : TypeId} {pos : String} {aft : Array Edge} {g : Option (Nat × Bool)} {cur : Path} {x y : Operand} {t e e2 sz by_ n b c0 : Nat} {a0 : Option Addr} {z : Value} {xs news : List Value} {fz : Nat × Nat} (m c2 : Nat)
    (hT : TOk P T) (hx : ev σ δ cur x = some (.slice a0 n c0)) (hy : ev σ δ cur y = some (.slice (some ⟨b, 0, none⟩) (m + 1) c2)) (ht : und T t = some (.slice e)) (hi : sizeT T e = some sz) (hz : zeroT T e = some z) (hzs : (cellsL z).length = sz) (hb : bytesT T e = some by_) (hby : Nat.ble 1 by_ = true)
    (hO : OS e sz (.slice a0 n c0) n xs N) (hn : news.length = (m + 1) * sz) (h1 : ∀ u ∈ news, u.oneCell' = true) (hroom : (2 * (n + (m + 1)) + 192) * by_ ≤ 281474976710656) (h63 : n + (m + 1) < 9223372036854775808) :
    St P ro ⟨d, .call ⟨.builtin .append, #[x, y], #[t, t]⟩, ty, pos, aft, g⟩ σ δ cur M ((b, .cells ⟨news⟩ e2 fz) :: (N ++ L0)) (fun v M' L' => M = M' ∧ ∃ N' a c, v = .slice a (n + (m + 1)) c ∧ L' = N' ++ L0 ∧ OS e sz (.slice a (n + (m + 1)) c) (n + (m + 1)) (xs ++ news) N') := by
  refine St.frz (st_append (news := news) (m := m + 1) (N := N) (L0 := (b, .cells ⟨news⟩ e2 fz) :: L0) hT hx hy ht hi hz hzs hb hby (List.perm_middle (l₁ := N)).symm hO (.inr ⟨b, 0, c2, rfl, cellsAll List.mem_cons_self, hn⟩) h1 hroom h63) ?_
  rintro v M' L' w hw ⟨N', rfl, rfl, hO'⟩
  have hv : ∃ a c, v = .slice a (n + (m + 1)) c := by
    rcases hO' with ⟨rfl, h0, _⟩ | ⟨b', cap, cs, rfl, _⟩
    · omega
    · exact ⟨_, cap, rfl⟩
  obtain ⟨a, c, rfl⟩ := hv
  exact ⟨M, _, (hw.perm (List.perm_middle (l₁ := N'))).drop, rfl, N', a, c, rfl, rfl, hO'⟩
theorem OS.cellsL {e sz n c : Nat} {a : Option Addr} {xs : List Value} {N : HL} (h : OS e sz (.slice a n c) n xs N) (h0 : 0 < n) : ∃ b, a = some ⟨b, 0, none⟩ ∧ ∀ M L, Cells M (N ++ L) b 0 xs := by
  rcases h with ⟨h, h1, _⟩ | ⟨b, cap, cs, h, rfl, hle, hcl, hxs⟩
  · omega
  · cases h
    refine ⟨b, rfl, fun M L => ⟨⟨cs⟩, e, (0, 0), .inl List.mem_cons_self, fun i u hu => ?_⟩⟩
    rw [← hxs, List.getElem?_take] at hu
    split at hu
    · simpa using hu
    · cases hu
theorem run_condJ {P : Program} {C : Cx} {n : Nat} {k : List Item} {ds : List Deferred} {σ : Env} {M : Mem} {L : HL} {c : Operand} {x y : Code} {t : Bool} (σ' : Env) (hc : ev σ [] [] c = some (.bool t))
    (ht : t = true → Run P C n k ds σ' M L → Run P C n (.code x :: k) ds σ M L) (hf : t = false → Run P C n k ds σ' M L → Run P C n (.code y :: k) ds σ M L) (hk : Run P C n k ds σ' M L) : Run P C n (.code (.cond c x y) :: k) ds σ M L :=
  run_cond hc (fun h => ht h hk) (fun h => hf h hk)
theorem run_condI {P : Program} {C : Cx} {n : Nat} {k : List Item} {ds : List Deferred} {σ : Env} {M : Mem} {L : HL} {c : Operand} {x y : Code} {t : Bool} (S : Env → Mem → HL → Prop) (hc : ev σ [] [] c = some (.bool t))
    (ht : t = true → (∀ σ' M' L', S σ' M' L' → Run P C n k ds σ' M' L') → Run P C n (.code x :: k) ds σ M L) (hf : t = false → (∀ σ' M' L', S σ' M' L' → Run P C n k ds σ' M' L') → Run P C n (.code y :: k) ds σ M L)
    (hk : ∀ σ' M' L', S σ' M' L' → Run P C n k ds σ' M' L') : Run P C n (.code (.cond c x y) :: k) ds σ M L :=
  run_cond hc (fun h => ht h hk) (fun h => hf h hk)
theorem Hp.frzL {L : HL} {w : World} : ∀ (N : HL) {M : Mem}, Hp M (N ++ L) w → ∃ M', M.le M' ∧ (∀ p ∈ N, M'.blk p.1 = some p.2) ∧ Hp M' L w
  | [], M, h => ⟨M, Mem.le_refl _, by simp, h⟩
  | x :: N, M, h => by
    obtain ⟨M1, h1, h2, h3⟩ := Hp.freeze1 (b := x.1) (o := x.2) h
    obtain ⟨M2, h4, h5, h6⟩ := Hp.frzL N h3
    refine ⟨M2, Mem.le_trans h1 h4, fun p hp => ?_, h6⟩
    rcases List.mem_cons.1 hp with rfl | hp
    · exact h4.blk _ _ h2
    · exact h5 p hp
theorem run_frzL {P : Program} {C : Cx} {n : Nat} {k : List Item} {ds : List Deferred} {σ : Env} {M : Mem} {L : HL} (N : HL) (h : ∀ M', M.le M' → (∀ p ∈ N, M'.blk p.1 = some p.2) → Run P C n k ds σ M' L) : Run P C n k ds σ M (N ++ L) :=
  fun a w h1 h2 h3 h4 => by
    obtain ⟨M', h5, h6, h7⟩ := h4.frzL N
    exact h M' h5 h6 a w h1 h2 h3 h7
theorem runL_frzL {P : Program} {C : Cx} {n : Nat} {k : List Item} {ds : List Deferred} {σ : Env} {δ : Den} {ops : Array Oper} {l : List Oper} {M : Mem} {L : HL} (N : HL) (h : ∀ M', M.le M' → (∀ p ∈ N, M'.blk p.1 = some p.2) → RunL P C n ops l k ds σ δ M' L) : RunL P C n ops l k ds σ δ M (N ++ L) :=
  fun a w idx h1 h2 h3 h4 h5 => by
    obtain ⟨M', h6, h7, h8⟩ := h4.frzL N
    exact h M' h6 h7 a w idx h1 h2 h3 h8 h5
end Go.Chi
namespace Go.Proofs.YtladcmfbkiogbaaGreatDoor
open Go.Chi
set_option maxRecDepth 10000
def plainR (r : Int) : Bool := decide (r ≠ 34) && ((decide (r ≥ 32) && decide (r ≤ 126)) || (decide (r ≥ 161) && decide (r ≤ 687)) || (decide (r ≥ 880) && decide (r ≤ 1279)))
theorem plainc_ok (M : Mem) (L : HL) (r : Int) : TrQ Tryz.prog 231 [.int .i32 r] M L (.bool (plainR r)) := by
  refine Tr.intro 25 Tryz.func231 rfl rfl Tryz.call231 rfl ?_; intro C hC hro
  repeat (first | refine yy ?_ | refine yx fun _ => ?_)
  refine run_cond (t := r == 34) rfl (fun h1 => ?_) (fun h1 => ?_)
  · repeat (first | refine yy ?_ | refine yx fun _ => ?_)
    exact run_ret hC (rs := [.tmp 2]) rfl (resT rfl resN) (fun _ h => h) ⟨by simp at h1; subst h1; rfl, rfl, rfl⟩
  have h34 : decide (r ≠ 34) = true := by simpa using h1
  repeat (first | refine yy ?_ | refine yx fun _ => ?_)
  refine run_cond (t := decide (r ≥ 32) && decide (r ≤ 126)) rfl (fun h2 => ?_) (fun h2 => ?_)
  · repeat (first | refine yy ?_ | refine yx fun _ => ?_ | refine run_cond (t := decide (r ≥ 32) && decide (r ≤ 126)) rfl (fun _ => ?_) (fun h => by rw [h2] at h; cases h))
    exact run_ret hC (rs := [.tmp 2]) rfl (resT rfl resN) (fun _ h => h) ⟨by rw [plainR, h34, h2]; rfl, rfl, rfl⟩
  repeat (first | refine yy ?_ | refine yx fun _ => ?_)
  refine run_cond (t := decide (r ≥ 161) && decide (r ≤ 687)) rfl (fun h3 => ?_) (fun h3 => ?_)
  · repeat (first | refine yy ?_ | refine yx fun _ => ?_ | refine run_cond (t := decide (r ≥ 161) && decide (r ≤ 687)) rfl (fun _ => ?_) (fun h => by rw [h3] at h; cases h))
    exact run_ret hC (rs := [.tmp 2]) rfl (resT rfl resN) (fun _ h => h) ⟨by rw [plainR, h34, h2, h3]; rfl, rfl, rfl⟩
  repeat (first | refine yy ?_ | refine yx fun _ => ?_)
  refine run_cond (t := decide (r ≥ 880) && decide (r ≤ 1279)) rfl (fun h4 => ?_) (fun h4 => ?_)
  · repeat (first | refine yy ?_ | refine yx fun _ => ?_)
    exact run_ret hC (rs := [.tmp 2]) rfl (resT rfl resN) (fun _ h => h) ⟨by rw [plainR, h34, h2, h3, h4]; rfl, rfl, rfl⟩
  · repeat (first | refine yy ?_ | refine yx fun _ => ?_)
    exact run_ret hC (rs := [.tmp 2]) rfl (resT rfl resN) (fun _ h => h) ⟨by rw [plainR, h34, h2, h3, h4]; rfl, rfl, rfl⟩
def whF (q : Int → Bool) : List (Nat × Nat) → Nat → Nat
  | [], e => e
  | x :: l, e => if q x.2 then whF q l e else x.1
def whileN (s : ByteArray) (q : Int → Bool) : Nat := whF q (rsF s 0) s.size
set_option maxHeartbeats 4000000 in
theorem while_ok (M : Mem) (L : HL) (s : ByteArray) (g : FuncId) (q : Int → Bool) (hq : ∀ M L r, TrQ Tryz.prog g [.int .i32 r] M L (.bool (q r))) : TrQ Tryz.prog 226 [.string s, .func (.func g) ⟨[]⟩ ⟨[]⟩] M L (iv (whileN s q)) := by
  refine Tr.intro 20 Tryz.func226 rfl rfl Tryz.call226 rfl ?_; intro C hC hro
  repeat (first | refine yy ?_ | refine yx fun _ => ?_ | (refine runL_op (st_rangeS tok rfl rfl) rfl rfl rfl ?_; rintro _ _ _ ⟨b, rfl, rfl, rfl⟩))
  refine run_loopN (fun i σ1 M1 L1 => i ≤ s.size ∧ ∃ p, i ≤ p ∧ whF q (rsF s p) s.size = whileN s q ∧ σ1 = [(8, pt b), (0, .string s), (1, .func (.func g) ⟨[]⟩ ⟨[]⟩)] ∧ M = M1 ∧ L1 = (b, .stringIter s p) :: L) s.size [(8, pt b), (0, .string s), (1, .func (.func g) ⟨[]⟩ ⟨[]⟩)] ?_ ⟨Nat.zero_le _, 0, Nat.le_refl _, rfl, rfl, rfl, rfl⟩ (fun j _ _ _ h => h.1) ?_
  · exact ⟨rfl, rfl, rfl, trivial⟩
  rintro i _ _ _ ⟨hi, p, hip, hn, rfl, rfl, rfl⟩ hnext
  by_cases hlt : p < s.size
  · have hwd := decode_wide s hlt
    rw [rsF_lt hlt, whF] at hn
    repeat (first | refine yy ?_ | refine yx fun _ => ?_ | (refine runL_op (st_nextS rfl (by (repeat (first | with_reducible apply Upd.here | with_reducible apply Upd.there | with_reducible apply Upd.append_left))) hlt) rfl rfl rfl ?_; rintro _ _ _ ⟨rfl, rfl, rfl⟩) | refine run_cond (t := true) rfl (fun _ => ?_) (fun h => by cases h) | refine runL_q (st_callV rfl rfl (fun _ => hq _ _ _)) rfl rfl rfl ?_)
    refine run_cond (t := !q ((Utf8.decode s p).1 : Int)) rfl (fun h3 => ?_) (fun h3 => ?_)
    · rw [if_neg (by simpa using h3)] at hn
      repeat (first | refine yy ?_ | refine yx fun _ => ?_)
      exact run_ret hC (rs := [.tmp 4]) rfl (resT rfl resN) (fun _ h => h.drop) ⟨by rw [← hn]; rfl, rfl, rfl⟩
    · rw [if_pos (by simpa using h3)] at hn
      repeat (first | refine yy ?_ | refine yx fun _ => ?_)
      exact run_sub' (hnext _ _ _ ⟨by omega, _, by omega, hn, rfl, rfl, rfl⟩) ⟨rfl, rfl, rfl, trivial⟩
  · rw [rsF_ge hlt, whF] at hn
    repeat (first | refine yy ?_ | refine yx fun _ => ?_ | refine runL_q (qt_nextEnd rfl (by (repeat (first | with_reducible apply List.mem_cons_self | with_reducible assumption | with_reducible apply List.mem_cons_of_mem | with_reducible apply List.mem_append_right))) hlt) rfl rfl rfl ?_ | refine run_cond (t := false) rfl (fun h => by cases h) (fun _ => ?_))
    exact run_ret hC (rs := [.tmp 4]) rfl (resT rfl resN) (fun _ h => h.drop) ⟨by rw [← hn]; rfl, rfl, rfl⟩
def plainB (s : ByteArray) : Bool := whileN s plainR == s.size
theorem plain_ok (M : Mem) (L : HL) (s : ByteArray) : TrQ Tryz.prog 245 [.string s] M L (.bool (plainB s)) := by
  refine Tr.intro 8 Tryz.func245 rfl rfl Tryz.call245 rfl ?_; intro C hC hro
  repeat (first | refine yy ?_ | refine yx fun _ => ?_ | refine qc (while_ok _ _ s 231 plainR plainc_ok) ?_)
  refine run_ret hC (rs := [.tmp 2]) rfl (resT rfl resN) (fun _ h => h) ⟨?_, rfl, rfl⟩
  show Value.bool (((whileN s plainR : Nat) : Int) == ((s.size : Nat) : Int)) = Value.bool (whileN s plainR == s.size)
  congr 1
  rw [Bool.eq_iff_iff]; simp; omega
def hexT : ByteArray := ⟨#[48, 49, 50, 51, 52, 53, 54, 55, 56, 57, 97, 98, 99, 100, 101, 102]⟩
def hexD (n : Nat) : UInt8 := hexT.data.toList.getD n 0
def hexL : List UInt8 → List UInt8
  | [] => []
  | b :: l => hexD (b.toNat / 16) :: hexD (b.toNat % 16) :: hexL l
theorem hexL_snoc {l : List UInt8} {j : Nat} {b : UInt8} (h : l[j]? = some b) : hexL (l.take (j + 1)) = hexL (l.take j) ++ [hexD (b.toNat / 16), hexD (b.toNat % 16)] := by
  rw [List.take_add_one, h]
  generalize l.take j = k
  induction k with
  | nil => rfl
  | cons x k ih => simpa [hexL] using ih
theorem bC_one (l : List UInt8) : ∀ u ∈ bC l, u.oneCell' = true := by
  intro u hu
  obtain ⟨b, _, rfl⟩ := List.mem_map.1 hu
  rfl
def datumB (s : ByteArray) : ByteArray := if plainB s then ((⟨#[34]⟩ : ByteArray) ++ s) ++ ⟨#[34]⟩ else ⟨(120 :: hexL s.data.toList).toArray⟩
theorem hex_sh : ∀ n : Fin 256, ishr .u8 ((n.val : Nat) : Int) 4 = ((n.val / 16 : Nat) : Int) := by decide +kernel
theorem hex_nd : ∀ n : Fin 256, iand .u8 ((n.val : Nat) : Int) 15 = ((n.val % 16 : Nat) : Int) := by decide +kernel
theorem hex_at : ∀ n : Fin 16, hexT[n.val]? = some (hexD n.val) := by decide +kernel
set_option maxHeartbeats 4000000 in
theorem datum_ok (M : Mem) (L : HL) (s : ByteArray) (hs : s.size < 1000000) : TrQ Tryz.prog 241 [.string s] M L (.string (datumB s)) := by
  have h1 : (⟨#[34]⟩ : ByteArray).size = 1 := rfl
  refine Tr.intro 32 Tryz.func241 rfl rfl Tryz.call241 rfl ?_; intro C hC hro
  repeat (first | refine yy ?_ | refine yx fun _ => ?_ | refine qc (plain_ok _ _ s) ?_)
  refine run_cond (t := plainB s) rfl (fun h => ?_) (fun h => ?_)
  · have hc1 : (⟨#[34]⟩ : ByteArray).size + s.size < 4611686018427387904 := by omega
    have hc2 : ((⟨#[34]⟩ : ByteArray) ++ s).size + (⟨#[34]⟩ : ByteArray).size < 4611686018427387904 := by rw [app_size]; omega
    repeat (first | refine yy ?_ | refine yx fun _ => ?_)
    exact run_ret hC (rs := [.tmp 2]) rfl (resT rfl resN) (fun _ h => h) ⟨by rw [datumB, if_pos h]; rfl, rfl, rfl⟩
  repeat (first | refine yy ?_ | refine yx fun _ => ?_)
  rename_i b3
  refine run_loopN (fun j σ1 M1 L1 => j ≤ s.size ∧ M = M1 ∧ ∃ a c N, L1 = N ++ L ∧ OS 5 1 (.slice a (1 + 2 * j) c) (1 + 2 * j) (bC (120 :: hexL (s.data.toList.take j))) N ∧ σ1 = [(13, iv j), (12, iv s.size), (3, .slice a (1 + 2 * j) c), (0, .string s)]) s.size [(13, iv 0), (12, iv s.size), (3, .slice (some ⟨b3, 0, none⟩) 1 1), (0, .string s)] ?_ ⟨Nat.zero_le _, rfl, _, _, [_], rfl, .inr ⟨b3, 1, _, rfl, rfl, Nat.le_refl _, rfl, rfl⟩, rfl⟩ (fun j _ _ _ h => h.1) ?_
  · exact ⟨rfl, rfl, rfl, rfl, trivial⟩
  rintro j _ _ _ ⟨hj, rfl, a, c, N, rfl, hO, rfl⟩ hnext
  repeat (first | refine yy ?_ | refine yx fun _ => ?_)
  refine run_cond rfl (fun h2 => ?_) (fun h2 => ?_)
  · have hlt : j < s.size := by simpa using h2
    obtain ⟨b, hb⟩ : ∃ b : UInt8, s[j]? = some b := ⟨_, getElem?_pos s j hlt⟩
    have hb256 := b.toNat_lt
    have hsh : ishr .u8 ((b.toNat : Nat) : Int) 4 = ((b.toNat / 16 : Nat) : Int) := hex_sh ⟨b.toNat, hb256⟩
    have hx1 : hexT[b.toNat / 16]? = some (hexD (b.toNat / 16)) := hex_at ⟨b.toNat / 16, by omega⟩
    have hx2 : hexT[b.toNat % 16]? = some (hexD (b.toNat % 16)) := hex_at ⟨b.toNat % 16, by omega⟩
    have hnd : iand .u8 ((b.toNat : Nat) : Int) 15 = ((b.toNat % 16 : Nat) : Int) := hex_nd ⟨b.toNat, hb256⟩
    have hbl : s.data.toList[j]? = some b := by
      have h1 := (getElem?_eq_some_iff.1 hb)
      obtain ⟨h1, h2⟩ := h1
      rw [List.getElem?_eq_getElem (by simpa using h1)]
      exact congrArg some h2
    repeat (first | refine yy ?_ | refine dd ?_ | refine yd ?_ | refine yx fun _ => ?_ | refine pq rfl (qt_strIndex tok rfl rfl (congrArg (fun z => some (Value.int .u8 z)) hsh) (fun _ => hx1)) ?_ | refine pq rfl (qt_strIndex tok rfl rfl (congrArg (fun z => some (Value.int .u8 z)) hnd) (fun _ => hx2)) ?_ | (refine pe rfl (st_appN 1 2 tok rfl rfl rfl rfl rfl rfl rfl rfl hO rfl (bC_one [hexD (b.toNat / 16), hexD (b.toNat % 16)]) (by omega) (by omega)) ?_; rintro _ _ _ ⟨rfl, N', a', c', rfl, rfl, hO'⟩))
    refine run_sub' (hnext _ _ _ ⟨hlt, rfl, a', c', N', rfl, ?_, rfl⟩) ⟨lk_succ rfl (by omega), rfl, rfl, rfl, trivial⟩
    rw [hexL_snoc hbl]
    rw [← List.cons_append, bC, List.map_append, show 1 + 2 * (j + 1) = 1 + 2 * j + 2 by omega]
    exact hO'
  · have hge : j = s.size := by simp at h2; omega
    subst hge
    obtain ⟨b, rfl, hcs⟩ := hO.cellsL (by omega)
    rw [List.take_of_length_le (by simp)] at hcs hO
    have hlen := hO.len
    have hbC : bC (120 :: hexL s.data.toList) = ((120 :: hexL s.data.toList).map fun b => ((b.toNat : Nat) : Int)).map (Value.int .u8) := by rw [List.map_map]; rfl
    rw [hbC] at hcs hlen
    repeat (first | refine yy ?_ | refine yx fun _ => ?_ | refine rq (qt_bytesStr tok ((120 :: hexL s.data.toList).map fun b => ((b.toNat : Nat) : Int)) rfl rfl rfl rfl (hcs _ _) (by simpa using hlen)) ?_)
    refine run_ret hC (rs := [.tmp 2]) rfl (resT rfl resN) (fun _ h => h.dropAll) ⟨?_, rfl, rfl⟩
    rw [datumB, if_neg (by simp [h])]
    show Value.string _ = _
    congr 1
    apply ba_ext
    rw [bytesI_list, List.map_map]
    refine (List.map_congr_left fun b _ => ?_).trans (List.map_id _)
    simp
end Go.Proofs.YtladcmfbkiogbaaGreatDoor
namespace Go.Proofs.YtladcmfbkiogbaaGreatDoor
open Go.Chi
set_option maxRecDepth 10000
theorem frontQ_ok (M : Mem) (L : HL) (s : ByteArray) (n p : Nat) (hs : s.size < 4611686018427387904) (h : frontR s = .ok (n, p)) : TrQ Tryz.prog 180 [.string s] M L (.tuple ⟨[.int .i64 (n : Int), .int .i64 (p : Int)]⟩) := by
  refine (front_ok M L s hs).tr ?_
  rintro e M' L' ⟨rfl, rfl, hv⟩
  rw [h] at hv
  exact ⟨_, hv, rfl, rfl, rfl⟩
theorem Hd.le32 {h : ByteArray} {p : Nat} (hh : Hd h p) : p ≤ 32 := by cases hh <;> omega
def Teller (P : Program) (f : FuncId) (caps : List Value) (n : Nat) (Inv : List Pl → Mem → HL → Prop) : Prop :=
  ∀ (l : List Pl) (a e d : Nat) (M : Mem) (L : HL), l.length < 1000000 → a ≤ e → e ≤ n → Inv l M L → Tr P f ([.int .i64 (a : Int), .int .i64 (e : Int), .int .i64 (d : Int)] ++ caps) M L (fun _ M' L' => M.le M' ∧ Inv (l ++ [⟨a, e, d⟩]) M' L')
theorem cat_app : ∀ (ps qs : List ByteArray), cat (ps ++ qs) = cat ps ++ cat qs
  | [], qs => (nil_app _).symm
  | p :: ps, qs => by rw [List.cons_append, cat, cat, cat_app ps qs, app_assoc]
theorem kids_app (f : Nat → ByteArray → List Pl) : ∀ (ps qs : List ByteArray) (a : Nat), kids f a (ps ++ qs) = kids f a ps ++ kids f (a + (cat ps).size) qs
  | [], qs, a => rfl
  | p :: ps, qs, a => by rw [List.cons_append, kids, kids, kids_app f ps qs, List.append_assoc, cat, app_size, Nat.add_assoc]
theorem kids_len_of {k d : Nat} : ∀ {ps : List ByteArray}, (∀ p ∈ ps, ∀ a, (postL k d a p).length ≤ p.size) → ∀ a, (kids (postL k d) a ps).length ≤ (cat ps).size
  | [], _, _ => Nat.zero_le _
  | p :: ps, h, a => by
    rw [kids, List.length_append, cat, app_size]
    exact Nat.add_le_add (h p List.mem_cons_self a) (kids_len_of (fun q hq => h q (List.mem_cons_of_mem _ hq)) _)
theorem post_len : ∀ {k : Nat}, k ≤ 16 → ∀ {t : ByteArray}, Tm k t → t.size < 4611686018427387904 → ∀ d a, (postL k d a t).length ≤ t.size
  | 0, _, _, h, _, _, _ => h.elim
  | k + 1, hk, t, ⟨hd, ps, h1, h2, h3⟩, hs, d, a => by
    subst h2
    have hz : (hd ++ cat ps).size = hd.size + (cat ps).size := app_size _ _
    have hpos := h1.pos
    rw [postL, head_of h1, parts_of (by omega) h1 h3 hs, List.length_append, List.length_singleton]
    have := kids_len_of (k := k) (d := d + 1) (ps := ps) (fun p hp a => post_len (by omega) (h3 p hp) (by have := cat_mem hp; omega) (d + 1) a) (a + hd.size)
    omega
theorem kids_len {k : Nat} (hk : k ≤ 16) {ps : List ByteArray} (h : ∀ p ∈ ps, Tm k p) (d a : Nat) (hs : (cat ps).size < 4611686018427387904) : (kids (postL k d) a ps).length ≤ (cat ps).size :=
  kids_len_of (fun p hp a => post_len hk (h p hp) (by have := cat_mem hp; omega) d a) a
set_option maxHeartbeats 8000000 in
theorem walkT_ok (f : FuncId) (caps : List Value) (n : Nat) (Inv : List Pl → Mem → HL → Prop) (hcb : Teller Tryz.prog f caps n Inv) : ∀ (k : Nat), k ≤ 16 → ∀ (t : ByteArray), Tm k t → ∀ (x y : ByteArray), (x ++ (t ++ y)).size < 4611686018427387904 → (x ++ (t ++ y)).size ≤ n → ∀ (l : List Pl) (M : Mem) (L : HL), l.length + t.size ≤ 1000000 → Inv l M L →
    Tr Tryz.prog 139 [.string (x ++ (t ++ y)), .int .i64 (x.size : Int), .int .i64 ((17 - k : Nat) : Int), .func (.func f) ⟨[]⟩ ⟨caps⟩] M L (fun v M' L' => M.le M' ∧ v = .int .i64 ((x.size + t.size : Nat) : Int) ∧ Inv (l ++ postL k (17 - k) x.size t) M' L') := by
  intro k
  induction k with
  | zero => intro _ t ht; exact ht.elim
  | succ k ih =>
    intro hk t ht x y hs hsn l M L hlz hI
    obtain ⟨hd, ps, h1, h2, h3⟩ := ht
    subst h2
    have hz : (x ++ ((hd ++ cat ps) ++ y)).size = x.size + ((hd.size + (cat ps).size) + y.size) := by simp only [app_size]
    have hrow := h1.le32
    have hpos := h1.pos
    have hfr := frontQ_ok M L ((x ++ ((hd ++ cat ps) ++ y)).extract x.size (x ++ ((hd ++ cat ps) ++ y)).size) hd.size ps.length (by rw [ByteArray.size_extract]; omega) (by rw [ext_right, app_assoc]; exact hd_front h1 _)
    have e1 : IntKind.i64.wrap ((x.size : Int) + (hd.size : Int)) = ((x.size + hd.size : Nat) : Int) := by
      rw [show (x.size : Int) + (hd.size : Int) = ((x.size + hd.size : Nat) : Int) by omega, wrap64_nat (by omega)]
    generalize hS : x ++ ((hd ++ cat ps) ++ y) = S at hfr hz hs hsn
    refine Tr.intro 41 Tryz.func139 rfl rfl Tryz.call139 rfl ?_
    intro C hC hro
    repeat (first | refine zz ?_ | refine zx fun _ => ?_)
    refine run_cond rfl (fun h => ?_) (fun h => ?_)
    · exfalso
      have : (16 : Int) < ((17 - (k + 1) : Nat) : Int) := by simpa using h
      omega
    repeat (first | refine zz ?_ | refine zx fun _ => ?_ | refine rq (qt_strLo tok rfl rfl rfl (fun _ => by omega)) ?_ | refine rq (qt_callF rfl (fun _ => hfr)) ?_)
    have hS2 : (x ++ hd) ++ (cat ps ++ y) = S := by rw [← hS]; simp only [app_assoc]
    have hln : (hd ++ cat ps).size = hd.size + (cat ps).size := app_size _ _
    refine run_loopN (fun i σ1 M1 L1 => i ≤ ps.length ∧ M.le M1 ∧ Inv (l ++ kids (postL k (17 - k)) (x.size + hd.size) (ps.take i)) M1 L1 ∧ σ1 = [(0, .string S), (1, .int .i64 (x.size : Int)), (2, .int .i64 ((17 - (k + 1) : Nat) : Int)), (3, .func (.func f) ⟨[]⟩ ⟨caps⟩), (11, .int .i64 ((x.size + hd.size + (cat (ps.take i)).size : Nat) : Int)), (25, .int .i64 (ps.length : Int)), (26, .int .i64 (i : Int))]) ps.length [(0, .string S), (1, .int .i64 (x.size : Int)), (2, .int .i64 ((17 - (k + 1) : Nat) : Int)), (3, .func (.func f) ⟨[]⟩ ⟨caps⟩), (11, .int .i64 ((x.size + hd.size : Nat) : Int)), (25, .int .i64 (ps.length : Int)), (26, .int .i64 ((0 : Nat) : Int))] ?_ ⟨Nat.zero_le _, Mem.le_refl _, by rw [List.take_zero, kids, List.append_nil]; exact hI, by rw [List.take_zero]; rfl⟩ (fun j _ _ _ h => h.1) ?_
    · exact ⟨rfl, rfl, rfl, rfl, by rw [← e1]; rfl, rfl, rfl, trivial⟩
    rintro i _ M1 L1 ⟨hi, hM1, hI1, rfl⟩ hnext
    repeat (first | refine zz ?_ | refine zx fun _ => ?_)
    refine run_cond rfl (fun h5 => ?_) (fun h5 => ?_)
    · have hik : i < ps.length := by simpa using h5
      obtain ⟨q, hq⟩ : ∃ q, ps[i]? = some q := ⟨_, List.getElem?_eq_getElem hik⟩
      have hqm := List.mem_of_getElem? hq
      have htk : ps.take (i + 1) = ps.take i ++ [q] := by rw [List.take_add_one, hq]; rfl
      have hcat : cat ps = cat (ps.take i) ++ (q ++ cat (ps.drop (i + 1))) := by
        conv => lhs; rw [← List.take_append_drop (i + 1) ps, cat_app, htk, cat_app]
        rw [cat, cat, app_nil, app_assoc]
      have hS3 : (x ++ hd ++ cat (ps.take i)) ++ (q ++ (cat (ps.drop (i + 1)) ++ y)) = S := by
        rw [← hS2, hcat]; simp only [app_assoc]
      have hx3 : (x ++ hd ++ cat (ps.take i)).size = x.size + hd.size + (cat (ps.take i)).size := by rw [app_size, app_size]
      have hkl := kids_len (by omega) (ps := ps.take i) (fun p hp => h3 p (List.mem_of_mem_take hp)) (17 - k) (x.size + hd.size) (by have := congrArg ByteArray.size hcat; rw [app_size] at this; omega)
      have hqz : (cat (ps.take i)).size + q.size ≤ (cat ps).size := by have := congrArg ByteArray.size hcat; rw [app_size, app_size] at this; omega
      have hih := ih (by omega) q (h3 q hqm) (x ++ hd ++ cat (ps.take i)) (cat (ps.drop (i + 1)) ++ y) (by rw [hS3]; exact hs) (by rw [hS3]; exact hsn) _ M1 L1 (by rw [List.length_append]; omega) hI1
      rw [hS3, hx3] at hih
      repeat (first | refine zz ?_ | refine zx fun _ => ?_)
      refine runL_as 31 (.int .i64 ((17 - k : Nat) : Int)) rfl (by rw [wrap64_succ (by omega), show 17 - (k + 1) + 1 = 17 - k by omega]) ?_
      repeat (first | refine zz ?_ | refine zx fun _ => ?_ | (refine ro (st_callF rfl (fun _ => hih)) ?_; rintro _ M2 L2 ⟨hM2, rfl, hI2⟩))
      exact run_sub' (hnext _ _ _ ⟨hik, Mem.le_trans hM1 hM2, by rw [htk, kids_app]; simpa [kids, Nat.add_assoc] using hI2, rfl⟩) ⟨rfl, rfl, rfl, rfl, by rw [htk, cat_app, app_size, cat, cat, app_nil]; simp only [Nat.add_assoc]; rfl, rfl, lk_succ rfl (by omega), trivial⟩
    · have hik : i = ps.length := by simp at h5; omega
      subst hik
      rw [List.take_length] at hI1 ⊢
      have hkl := kids_len (by omega) (ps := ps) h3 (17 - k) (x.size + hd.size) (by omega)
      repeat (first | refine zz ?_ | refine zx fun _ => ?_ | (refine ro (st_callV rfl rfl (fun _ => hcb _ x.size (x.size + hd.size + (cat ps).size) (17 - (k + 1)) M1 L1 (by rw [List.length_append]; omega) (by omega) (by omega) hI1)) ?_; rintro _ M2 L2 ⟨hM2, hI2⟩))
      refine run_ret hC (rs := [.tmp 8]) rfl (resT rfl resN) (fun _ h => h) ⟨Mem.le_trans hM1 hM2, by rw [hln, Nat.add_assoc]; rfl, ?_⟩
      rw [postL, head_of h1, parts_of (by omega) h1 h3 (by omega), ← List.append_assoc, show 17 - (k + 1) + 1 = 17 - k by omega, hln, ← Nat.add_assoc]
      exact hI2
end Go.Proofs.YtladcmfbkiogbaaGreatDoor
namespace Go.Proofs.YtladcmfbkiogbaaGreatDoor
open Go.Chi
set_option maxRecDepth 10000
theorem kids_mem {f : Nat → ByteArray → List Pl} {q : Pl} : ∀ {ps : List ByteArray} {a : Nat}, q ∈ kids f a ps → ∃ p ∈ ps, ∃ a', q ∈ f a' p
  | [], _, h => by cases h
  | p :: ps, a, h => by
    rcases List.mem_append.1 h with h | h
    · exact ⟨p, List.mem_cons_self, a, h⟩
    · obtain ⟨p', h1, h2⟩ := kids_mem h
      exact ⟨p', List.mem_cons_of_mem _ h1, h2⟩
theorem post_self {k : Nat} (hk : k + 1 ≤ 16) {t : ByteArray} (ht : Tm (k + 1) t) (hz : t.size < 4611686018427387904) (d a : Nat) : (postL (k + 1) d a t).filter (fun p => decide (p.d = d)) = [⟨a, a + t.size, d⟩] := by
  obtain ⟨hd, ps, h1, h2, h3⟩ := ht
  subst h2
  have hs : (hd ++ cat ps).size = hd.size + (cat ps).size := app_size _ _
  rw [postL, List.filter_append, head_of h1, parts_of (by omega) h1 h3 hz, List.filter_eq_nil_iff.2 fun q hq => ?_]
  · simp
  · obtain ⟨p, hp, a', hq'⟩ := kids_mem hq
    have := (pre_in (by omega) (h3 p hp) (by have := cat_mem hp; omega) (d + 1) a').1 q ((post_pre k (d + 1) a' p).mem_iff.1 hq')
    have := this.2.2.2.2
    simp; omega
theorem two_kids {k : Nat} (hk : k + 1 ≤ 16) : ∀ (qs : List ByteArray), (∀ p ∈ qs, Tm (k + 1) p) → ∀ (x y : ByteArray), (x ++ (cat qs ++ y)).size < 4611686018427387904 → ((kids (postL (k + 1) 2) x.size qs).filter (fun p => decide (p.d = 2))).map (fun p => (x ++ (cat qs ++ y)).extract p.a p.e) = qs
  | [], _, _, _, _ => rfl
  | q :: qs, hq, x, y, hs => by
    have e : x ++ (cat (q :: qs) ++ y) = x ++ (q ++ (cat qs ++ y)) := by rw [cat, app_assoc]
    have e2 : x ++ (q ++ (cat qs ++ y)) = (x ++ q) ++ (cat qs ++ y) := (app_assoc _ _ _).symm
    rw [e] at hs ⊢
    have hq' : q.size < 4611686018427387904 := by simp only [app_size] at hs; omega
    have ih := two_kids hk qs (fun p hp => hq p (List.mem_cons_of_mem _ hp)) (x ++ q) y (by rw [← e2]; exact hs)
    rw [app_size] at ih
    rw [kids, List.filter_append, post_self hk (hq q List.mem_cons_self) hq', List.map_append, e2, ih, ← e2]
    simp only [List.map_cons, List.map_nil, List.cons_append, List.nil_append]
    rw [ext_mid]
theorem two_parts {t : ByteArray} (hT : Tm 16 t) (hz : t.size < 4611686018427387904) : ((postL 16 1 0 t).filter (fun p => decide (p.d = 2))).map (fun p => t.extract p.a p.e) = partsL t := by
  obtain ⟨hd, ps, h1, h2, h3⟩ := hT
  subst h2
  have := two_kids (k := 14) (by omega) ps h3 hd ⟨#[]⟩ (by rw [app_nil]; exact hz)
  rw [app_nil] at this
  rw [postL, List.filter_append, head_of h1, parts_of (show 15 ≤ 16 by decide) h1 h3 hz, List.map_append, Nat.zero_add, this]
  simp
def prL (t : ByteArray) (l : List Pl) : List ByteArray := (l.filter (fun p => decide (p.d = 2))).map (fun p => t.extract p.a p.e)
def PrI (M0 : Mem) (t : ByteArray) (bt bl : Nat) (L0 : HL) (l : List Pl) (M : Mem) (L : HL) : Prop := M0 = M ∧ ∃ v N, L = N ++ ((bl, .cells ⟨[v]⟩ 22 (0, 0)) :: (bt, .cells ⟨[.string t]⟩ 9 (0, 0)) :: L0) ∧ OS 9 1 v (prL t l).length ((prL t l).map stC).flatten N ∧ (prL t l).length ≤ l.length
theorem prL_snoc (t : ByteArray) (l : List Pl) (p : Pl) : prL t (l ++ [p]) = if p.d = 2 then prL t l ++ [t.extract p.a p.e] else prL t l := by
  unfold prL
  rw [List.filter_append, List.map_append]
  by_cases h : p.d = 2 <;> simp [h]
theorem stC_oneP (x : ByteArray) : ∀ u ∈ stC x, u.oneCell' = true := by intro u hu; simp [stC] at hu; subst hu; rfl
set_option maxHeartbeats 4000000 in
theorem prt_ok (M0 : Mem) (t : ByteArray) (bt bl : Nat) (L0 : HL) : Teller Tryz.prog 247 [pt bl, pt bt] t.size (PrI M0 t bt bl L0) := by
  rintro l a e d M L hlz hae hen ⟨rfl, v, N, rfl, hO, hle⟩
  obtain ⟨av, cv, rfl⟩ := osH hO
  have hsn := prL_snoc t l ⟨a, e, d⟩
  refine Tr.intro 17 Tryz.func247 rfl rfl Tryz.call247 rfl ?_; intro C hC hro
  repeat (first | refine yy ?_ | refine yx fun _ => ?_)
  refine run_cond (t := ((d : Nat) : Int) == 2) rfl (fun h => ?_) (fun h => ?_)
  · have h2 : d = 2 := by simp at h; omega
    subst h2
    rw [if_pos rfl] at hsn
    have hm : (bl, Obj.cells ⟨[.slice av (prL t l).length cv]⟩ 22 (0, 0)) ∈ N ++ ((bl, .cells ⟨[.slice av (prL t l).length cv]⟩ 22 (0, 0)) :: (bt, .cells ⟨[.string t]⟩ 9 (0, 0)) :: L0) := List.mem_append_right _ List.mem_cons_self
    have hm2 : (bt, Obj.cells ⟨[.string t]⟩ 9 (0, 0)) ∈ N ++ ((bl, .cells ⟨[.slice av (prL t l).length cv]⟩ 22 (0, 0)) :: (bt, .cells ⟨[.string t]⟩ 9 (0, 0)) :: L0) := List.mem_append_right _ (List.mem_cons_of_mem _ List.mem_cons_self)
    repeat (first | refine yy ?_ | refine dd ?_ | refine yd ?_ | refine yx fun _ => ?_ | refine pq rfl (qt_ld tok rfl hm rfl) ?_ | refine pq rfl (qt_ld tok rfl hm2 rfl) ?_ | (refine pe rfl (st_app1 tok rfl rfl rfl rfl rfl rfl rfl rfl hO rfl (stC_oneP _) (by omega) (by omega)) ?_; rintro _ _ _ ⟨rfl, N', a', c', rfl, rfl, hO'⟩))
    refine run_end hC rfl (vs := []) trivial (fun _ h => h) ⟨Mem.le_refl _, rfl, _, N', rfl, ?_, by rw [hsn, List.length_append, List.length_append, List.length_singleton, List.length_singleton]; omega⟩
    rw [hsn, List.length_append, List.length_singleton, List.map_append, List.flatten_append]
    exact hO'
  · have h2 : ¬ d = 2 := by simp at h; omega
    rw [if_neg h2] at hsn
    repeat (first | refine yy ?_ | refine yx fun _ => ?_)
    exact run_end hC rfl (vs := []) trivial (fun _ h => h) ⟨Mem.le_refl _, rfl, _, N, rfl, by rw [hsn]; exact hO, by rw [hsn, List.length_append]; omega⟩
set_option maxHeartbeats 4000000 in
theorem parts_ok (M : Mem) (L : HL) (t : ByteArray) (ht : mayB t = true) (hz : t.size ≤ 20000) : Tr Tryz.prog 242 [.string t] M L (fun v M' L' => M.le M' ∧ L' = L ∧ ∃ s : SStr, v = .tuple ⟨[s.v, .bool true]⟩ ∧ StOk M' s ∧ s.xs = partsL t) := by
  obtain ⟨hT, hz2⟩ := (mayB_iff (by omega)).1 ht
  have hpl := post_len (Nat.le_refl _) hT (by omega) 1 0
  have h2 := two_parts hT (by omega)
  refine Tr.intro 12 Tryz.func242 rfl rfl Tryz.call242 rfl ?_; intro C hC hro
  repeat (first | refine yy ?_ | refine yx fun _ => ?_)
  rename_i bt bl b5
  repeat (first | refine yy ?_ | refine yx fun _ => ?_ | refine qc (isL_ok _ _ b5 1 [t] List.mem_cons_self rfl (by decide) (fun x hx => by simp at hx; subst hx; omega)) ?_)
  refine run_cond (t := false) (by show some (Value.bool _) = _; simp [ht]) (fun h => by cases h) (fun _ => ?_)
  have hwalk := walkT_ok 247 [pt bl, pt bt] t.size (PrI M t bt bl L) (prt_ok M t bt bl L) 16 (Nat.le_refl _) t hT ⟨#[]⟩ ⟨#[]⟩ (by rw [nil_app, app_nil]; omega) (by rw [nil_app, app_nil]; exact Nat.le_refl _) [] M ((bl, .cells ⟨[.slice none 0 0]⟩ 22 (0, 0)) :: (bt, .cells ⟨[.string t]⟩ 9 (0, 0)) :: L) (by show 0 + t.size ≤ _; omega) ⟨rfl, _, [], rfl, OS.nil _ _, Nat.le_refl _⟩
  simp only [nil_app, app_nil, List.nil_append, show (17 - 16 : Nat) = 1 from rfl, show (⟨#[]⟩ : ByteArray).size = 0 from rfl, Nat.zero_add] at hwalk
  refine run_mem (fun _ h => h.drop) ?_
  repeat (first | refine yy ?_ | refine yx fun _ => ?_ | (refine oc hwalk ?_; rintro _ M1 L1 ⟨_, rfl, rfl, v, N, rfl, hO, hle⟩; obtain ⟨av, cv, rfl⟩ := osH hO))
  refine run_retE hC (rs := [.cell 2 22, .tmp 3]) rfl (rl tok rfl (resT rfl resN)) fun w hw => ?_
  obtain ⟨M2, a2, c2, q1, q2, q3, q4⟩ := hw.freezeOS hO (by simp) (fun c hc => by obtain ⟨x, _, rfl⟩ := List.mem_map.1 hc; rfl)
  refine ⟨M2, L, q2.drop.drop, q1, rfl, ⟨a2, (prL t (postL 16 1 0 t)).length, c2, prL t (postL 16 1 0 t)⟩, ?_, ⟨q4, by show (prL t (postL 16 1 0 t)).length < 1000000; omega⟩, h2⟩
  show Value.tuple ⟨[_, _]⟩ = _
  rw [q3]
  rfl
end Go.Proofs.YtladcmfbkiogbaaGreatDoor
namespace Go.Proofs.YtladcmfbkiogbaaGreatDoor
open Go.Chi
set_option maxRecDepth 10000
def sepB : ByteArray := ⟨#[44, 32]⟩
def seqC (sep : ByteArray) : Bool → List ByteArray → ByteArray
  | _, [] => ⟨#[]⟩
  | first, x :: l => (if first then x else sep ++ x) ++ seqC sep false l
theorem seqC_snoc (sep : ByteArray) (x : ByteArray) : ∀ (l : List ByteArray) (f : Bool), seqC sep f (l ++ [x]) = seqC sep f l ++ (if f && l.isEmpty then x else sep ++ x)
  | [], f => by cases f <;> simp [seqC, app_nil, nil_app]
  | y :: l, f => by
    rw [List.cons_append, seqC, seqC_snoc sep x l false, seqC, app_assoc]
    simp
theorem seqC_le (sep : ByteArray) (j : Nat) : ∀ (l : List ByteArray) (f : Bool), (seqC sep f (l.take j)).size ≤ (seqC sep f l).size := by
  intro l
  induction l generalizing j with
  | nil => intro f; rw [List.take_nil]; exact Nat.le_refl _
  | cons x l ih =>
    intro f
    cases j with
    | zero => exact Nat.zero_le _
    | succ j => rw [List.take_succ_cons, seqC, seqC, app_size, app_size]; exact Nat.add_le_add_left (ih j false) _
def lineB : Nat → ByteArray → ByteArray
  | 0, _ => ⟨#[46, 46]⟩
  | d + 1, t => if kindN t = 1 then datumB (textN t).1 else if kindN t = 2 then (⟨#[36]⟩ : ByteArray) ++ (textN t).1 else
    if kindN t = 3 then ((⟨#[91]⟩ : ByteArray) ++ seqC sepB true ((partsL t).map (lineB d))) ++ ⟨#[93]⟩ else ((t.extract 0 1 ++ ⟨#[40]⟩) ++ seqC sepB true ((partsL t).map (lineB d))) ++ ⟨#[41]⟩
theorem textR_sz (s : ByteArray) (most : Nat) : (textR s most).1.size ≤ s.size := by
  unfold textR
  by_cases a : (numR s).2.2 ≠ 0
  · rw [if_pos a]; exact Nat.zero_le _
  rw [if_neg a]
  by_cases b : (most : Int) < (numR s).1
  · rw [if_pos b]; exact Nat.zero_le _
  rw [if_neg b]
  by_cases c : (s.size : Int) - (numR s).2.1 < (numR s).1
  · rw [if_pos c]; exact Nat.zero_le _
  rw [if_neg c]
  show (s.extract _ _).size ≤ _
  rw [ByteArray.size_extract]; omega
theorem ttextsz (t : ByteArray) : (textN t).1.size ≤ t.size := by
  unfold textN
  split
  · have h1 := textR_sz (rest1 t) 1024
    have h2 : (rest1 t).size ≤ t.size := by unfold rest1; rw [ByteArray.size_extract]; omega
    exact Nat.le_trans h1 h2
  · exact Nat.zero_le _
theorem hexL_len : ∀ l : List UInt8, (hexL l).length = 2 * l.length
  | [] => rfl
  | b :: l => by rw [hexL, List.length_cons, List.length_cons, hexL_len l, List.length_cons]; omega
theorem datum_size (s : ByteArray) : (datumB s).size ≤ 2 * s.size + 2 := by
  have h1 : (⟨#[34]⟩ : ByteArray).size = 1 := rfl
  unfold datumB
  split
  · rw [app_size, app_size]; omega
  · have : (⟨(120 :: hexL s.data.toList).toArray⟩ : ByteArray).size = (120 :: hexL s.data.toList).length := by rw [← ba_len]
    rw [this, List.length_cons, hexL_len, ba_len]; omega
theorem seqC_size {f : ByteArray → ByteArray} {c : Nat} : ∀ {ps : List ByteArray} (first : Bool), (∀ p ∈ ps, (f p).size ≤ c * p.size ∧ 1 ≤ p.size) → (seqC sepB first (ps.map f)).size ≤ (c + 2) * (cat ps).size
  | [], _, _ => Nat.zero_le _
  | p :: ps, first, h => by
    have h1 := h p List.mem_cons_self
    have ih := seqC_size (ps := ps) false fun q hq => h q (List.mem_cons_of_mem _ hq)
    have hsep : sepB.size = 2 := rfl
    rw [List.map_cons, seqC, app_size, cat, app_size, Nat.mul_add]
    have h2 : (if first = true then f p else sepB ++ f p).size ≤ (c + 2) * p.size := by
      rw [Nat.add_mul]
      split
      · omega
      · rw [app_size]; omega
    omega
theorem line_size : ∀ (d : Nat), d ≤ 16 → ∀ (t : ByteArray), Tm d t → t.size < 4611686018427387904 → (lineB d t).size ≤ (4 + 5 * d) * t.size
  | 0, _, _, h, _ => h.elim
  | d + 1, hd, t, ht, hz => by
    have hpos := ht.pos
    have h1 := ttextsz t
    have h2 := datum_size (textN t).1
    obtain ⟨hh, ps, k1, rfl, k3⟩ := ht
    have hhp := k1.pos
    have e1 : (⟨#[36]⟩ : ByteArray).size = 1 := rfl
    have e2 : (⟨#[91]⟩ : ByteArray).size = 1 := rfl
    have e3 : (⟨#[93]⟩ : ByteArray).size = 1 := rfl
    have e4 : (⟨#[40]⟩ : ByteArray).size = 1 := rfl
    have e5 : (⟨#[41]⟩ : ByteArray).size = 1 := rfl
    have hs : (hh ++ cat ps).size = hh.size + (cat ps).size := app_size _ _
    have hsq := seqC_size (f := lineB d) (c := 4 + 5 * d) (ps := ps) true fun p hp => ⟨line_size d (by omega) p (k3 p hp) (by have := cat_mem hp; omega), (k3 p hp).pos⟩
    have hm : (4 + 5 * (d + 1)) * (hh ++ cat ps).size = (4 + 5 * d + 2) * (cat ps).size + 3 * (cat ps).size + (4 + 5 * d + 2) * hh.size + 3 * hh.size := by
      rw [hs, show 4 + 5 * (d + 1) = (4 + 5 * d + 2) + 3 by omega, Nat.add_mul, Nat.mul_add, Nat.mul_add]; omega
    have hm2 : 4 * (hh ++ cat ps).size ≤ (4 + 5 * (d + 1)) * (hh ++ cat ps).size := Nat.mul_le_mul_right _ (by omega)
    rw [lineB, parts_of (by omega) k1 k3 hz]
    repeat' split
    · omega
    · rw [app_size]; omega
    · rw [app_size, app_size]; omega
    · rw [app_size, app_size, app_size, ByteArray.size_extract]; omega
def BdAt (b : Nat) (p : Value) (l : List UInt8) (R : HL) (L : HL) : Prop := ∃ v N, L = N ++ ((b, bdO p v) :: R) ∧ BdS v l N
theorem bW_ok (M : Mem) (L R : HL) (b : Nat) (p : Value) (l : List UInt8) (s : ByteArray) (hp : p = .pointer none ∨ p = pt b) (h : BdAt b p l R L) (hz : l.length + s.size < 1099511627776) :
    Tr Tryz.prog 59 [pt b, .string s] M L (fun _ M' L1 => M = M' ∧ BdAt b (pt b) (l ++ s.data.toList) R L1) := by
  obtain ⟨v, N, rfl, hO⟩ := h
  refine (bWrite_ok M _ R N b p v l s (List.perm_middle (l₁ := N)) hp hO hz).mono ?_
  rintro _ M' L1 ⟨h1, v', N', h2, h3⟩
  exact ⟨h1, v', N', h2, h3⟩
set_option maxHeartbeats 8000000 in
theorem stell_ok : ∀ (k : Nat), k ≤ 16 → ∀ (t : ByteArray), Tm k t → t.size ≤ 16384 → ∀ (M : Mem) (L R : HL) (b : Nat) (p : Value) (l : List UInt8), (p = .pointer none ∨ p = pt b) → BdAt b p l R L → l.length + (lineB k t).size < 1099511627776 →
    Tr Tryz.prog 213 [pt b, .string t, iv k] M L (fun _ M' L' => M.le M' ∧ BdAt b (pt b) (l ++ (lineB k t).data.toList) R L')
  | 0, _, _, h, _, _, _, _, _, _, _, _, _, _ => h.elim
  | k + 1, hk, t, hT, hz, M, L, R, b, p, l, hp, hB, hl => by
    have hmay : mayB t = true := (mayB_iff (by omega)).2 ⟨hT.mono hk, hz⟩
    have hpos := hT.pos
    have hkd : kindN t = kindB (byte t 0) := by rw [kindN, if_pos hmay]
    have h2s : (⟨#[36]⟩ : ByteArray).size + (textN t).1.size < 4611686018427387904 := by have := ttextsz t; show 1 + _ < _; omega
    refine Tr.intro 72 Tryz.func213 rfl rfl Tryz.call213 rfl ?_; intro C hC hro
    repeat (first | refine yy ?_ | refine yx fun _ => ?_)
    refine run_cond (t := decide (((k + 1 : Nat) : Int) < 1)) rfl (fun h => by simp at h; omega) (fun _ => ?_)
    repeat (first | refine yy ?_ | refine yx fun _ => ?_ | refine qc (ttext_ok _ _ t (by omega)) ?_ | refine qc (tkind_ok _ _ t (by omega)) ?_)
    refine run_cond (t := kindN t == 1) rfl (fun h => ?_) (fun h1 => ?_)
    · have e : lineB (k + 1) t = datumB (textN t).1 := by rw [lineB, if_pos (by simpa using h)]
      rw [e] at hl
      repeat (first | refine yy ?_ | refine yx fun _ => ?_ | refine qc (datum_ok _ _ (textN t).1 (by have := ttextsz t; omega)) ?_ | (refine oc (bW_ok _ _ R b p l _ hp hB hl) ?_; rintro _ _ _ ⟨rfl, hB'⟩))
      exact run_ret hC (rs := []) rfl resN (fun _ h => h) ⟨Mem.le_refl _, by rw [e]; exact hB'⟩
    repeat (first | refine yy ?_ | refine yx fun _ => ?_)
    refine run_cond (t := kindN t == 2) rfl (fun h => ?_) (fun h2 => ?_)
    · have e : lineB (k + 1) t = (⟨#[36]⟩ : ByteArray) ++ (textN t).1 := by rw [lineB, if_neg (by simpa using h1), if_pos (by simpa using h)]
      rw [e] at hl
      repeat (first | refine yy ?_ | refine yx fun _ => ?_ | (refine oc (bW_ok _ _ R b p l _ hp hB hl) ?_; rintro _ _ _ ⟨rfl, hB'⟩))
      exact run_ret hC (rs := []) rfl resN (fun _ h => h) ⟨Mem.le_refl _, by rw [e]; exact hB'⟩
    obtain ⟨hh, ps, k1, k2, k3⟩ := hT
    have hps : partsL t = ps := by rw [k2]; exact parts_of (by omega) k1 k3 (by rw [← k2]; omega)
    repeat (first | refine yy ?_ | refine yx fun _ => ?_)
    refine run_condI (fun σ' M' L' => ∃ (o c : UInt8) (p1 : Value) (l1 : List UInt8), M = M' ∧ (p1 = .pointer none ∨ p1 = pt b) ∧ BdAt b p1 l1 R L' ∧ σ' = [(8, .string ⟨#[o, c]⟩), (0, pt b), (1, .string t), (2, iv (k + 1))] ∧ l ++ (lineB (k + 1) t).data.toList = (l1 ++ [o]) ++ ((seqC sepB true (ps.map (lineB k))).data.toList ++ [c])) (t := kindN t == 3) rfl (fun h hk => ?_) (fun h hk => ?_) ?_
    · iterate 3 refine yy ?_
      refine run_sub' (hk _ _ _ ⟨91, 93, p, l, rfl, hp, hB, rfl, ?_⟩) ⟨rfl, rfl, rfl, rfl, trivial⟩
      rw [lineB, if_neg (by simpa using h1), if_neg (by simpa using h2), if_pos (by simpa using h), hps]
      simp
    · have hx1 : (t.extract 0 1).size ≤ 1 := by rw [ByteArray.size_extract]; omega
      have e : lineB (k + 1) t = ((t.extract 0 1 ++ ⟨#[40]⟩) ++ seqC sepB true (ps.map (lineB k))) ++ ⟨#[41]⟩ := by
        rw [lineB, if_neg (by simpa using h1), if_neg (by simpa using h2), if_neg (by simpa using h), hps]
      refine yy ?_
      iterate 2 refine yy ?_
      refine rq (qt_strHi (n := 1) tok rfl rfl rfl (fun _ => by omega)) ?_
      refine oc (bW_ok _ _ R b p l (t.extract 0 1) hp hB (by rw [e] at hl; simp only [app_size] at hl; omega)) ?_
      rintro _ _ _ ⟨rfl, hB'⟩
      refine yy ?_
      refine run_sub' (hk _ _ _ ⟨40, 41, pt b, _, rfl, .inr rfl, hB', rfl, ?_⟩) ⟨rfl, rfl, rfl, rfl, trivial⟩
      rw [e]
      simp
    rintro _ _ L1 ⟨o, c, p1, l1, rfl, hp1, hB1, rfl, hall⟩
    have hlen : ((l1 ++ [o]) ++ ((seqC sepB true (ps.map (lineB k))).data.toList ++ [c])).length < 1099511627776 := by
      rw [← hall, List.length_append, ba_len]; exact hl
    simp only [List.length_append, ba_len, List.length_singleton] at hlen
    have ho : ((⟨#[o, c]⟩ : ByteArray).extract 0 1) = ⟨#[o]⟩ := rfl
    have hc' : ((⟨#[o, c]⟩ : ByteArray).extract 1 (⟨#[o, c]⟩ : ByteArray).size) = ⟨#[c]⟩ := rfl
    have hs2 : (⟨#[o, c]⟩ : ByteArray).size = 2 := rfl
    repeat (first | refine yy ?_ | refine yx fun _ => ?_ | refine rq (qt_strHi (n := 1) tok rfl rfl rfl (fun _ => by rw [hs2]; decide)) ?_ | (refine oc (bW_ok _ _ R b p1 l1 ⟨#[o]⟩ hp1 hB1 (by show l1.length + 1 < _; omega)) ?_; rintro _ _ L2 ⟨rfl, hB2⟩) | (refine oc (parts_ok _ _ t hmay (by omega)) ?_; rintro _ M1 L2 ⟨hM1, rfl, s, rfl, hso, hsx⟩))
    obtain ⟨sa, sn, sc, xs⟩ := s
    obtain rfl : xs = ps := by rw [← hps]; exact hsx
    have hsn : xs.length = sn := hso.len
    have h6 : sn < 1000000 := hso.2
    have hsl : SlM M1 1 sa sn (xs.map stC) := hso.1
    have hB3 : BdAt b (pt b) (l1 ++ [o]) R L2 := hB2
    clear hB2 hso hsx
    have hall' : ∀ j, (seqC sepB true ((xs.take j).map (lineB k))).size ≤ (seqC sepB true (xs.map (lineB k))).size := fun j => by
      rw [List.map_take]; exact seqC_le _ _ _ _
    repeat (first | refine yy ?_ | refine yx fun _ => ?_)
    refine run_loopN (fun j σ1 M2 L3 => j ≤ sn ∧ M1.le M2 ∧ BdAt b (pt b) (l1 ++ [o] ++ (seqC sepB true ((xs.take j).map (lineB k))).data.toList) R L3 ∧ σ1 = [(53, iv j), (52, iv sn), (51, .slice sa sn sc), (8, .string ⟨#[o, c]⟩), (0, pt b), (2, iv (k + 1))]) sn [(53, iv 0), (52, iv sn), (51, .slice sa sn sc), (8, .string ⟨#[o, c]⟩), (0, pt b), (2, iv (k + 1))] ?_ ⟨Nat.zero_le _, Mem.le_refl _, by simpa [seqC] using hB3, rfl⟩ (fun j _ _ _ h => h.1) ?_
    · exact ⟨rfl, rfl, rfl, rfl, rfl, rfl, trivial⟩
    rintro j _ M2 L3 ⟨hj, hM2, hB4, rfl⟩ hnext
    have hlj := hall' j
    repeat (first | refine yy ?_ | refine yx fun _ => ?_)
    refine run_cond rfl (fun h5 => ?_) (fun h5 => ?_)
    · have hlt : j < sn := by simpa using h5
      have hsl2 := hsl.le hM2
      obtain ⟨bb, off, x, rfl, hx, hc⟩ := SStr.at_ hsl2 hlt
      have hxm := List.mem_of_getElem? hx
      have hsn' := seqC_snoc sepB (lineB k x) ((xs.take j).map (lineB k)) true
      rw [← List.map_singleton, ← List.map_append, ← take_snoc hx] at hsn'
      have hlj2 := hall' (j + 1)
      have hw : IntKind.i64.wrap (((k + 1 : Nat) : Int) - 1) = (k : Int) := by rw [show ((k + 1 : Nat) : Int) - 1 = (k : Int) by omega, wrap64_nat (by omega)]
      repeat (first | refine yy ?_ | refine yx fun _ => ?_)
      refine run_condI (fun σ' M' L' => M2 = M' ∧ (∃ l2, BdAt b (pt b) l2 R L' ∧ l2 ++ (lineB k x).data.toList = l1 ++ [o] ++ (seqC sepB true ((xs.take (j + 1)).map (lineB k))).data.toList) ∧ σ' = [(12, .string x), (53, iv j), (52, iv sn), (51, .slice (some ⟨bb, off, none⟩) sn sc), (8, .string ⟨#[o, c]⟩), (0, pt b), (2, iv (k + 1))]) (t := decide ((j : Int) > 0)) rfl (fun h hk => ?_) (fun h hk => ?_) ?_
      · have hj0 : j ≠ 0 := by simp at h; omega
        have he : ((xs.take j).map (lineB k)).isEmpty = false := by
          rw [List.isEmpty_eq_false_iff, ne_eq, List.map_eq_nil_iff, List.take_eq_nil_iff]
          rintro (h | h)
          · exact hj0 h
          · rw [h] at hsn; simp at hsn; omega
        rw [he] at hsn'
        have hs2' : sepB.size = 2 := rfl
        have hsz := congrArg ByteArray.size hsn'
        simp only [Bool.and_false, Bool.false_eq_true, if_false, app_size] at hsz
        refine yy ?_
        refine yy ?_
        refine oc (bW_ok _ _ R b (pt b) _ sepB (.inr rfl) hB4 (by simp only [List.length_append, ba_len, List.length_singleton]; omega)) ?_
        rintro _ _ L5 ⟨rfl, hB5⟩
        refine yy ?_
        refine run_sub' (hk _ _ _ ⟨rfl, ⟨_, hB5, ?_⟩, rfl⟩) ⟨rfl, rfl, rfl, rfl, rfl, rfl, rfl, trivial⟩
        rw [hsn']
        simp
      · have hj0 : j = 0 := by simp at h; omega
        subst hj0
        refine yy ?_
        refine run_sub' (hk _ _ _ ⟨rfl, ⟨_, hB4, ?_⟩, rfl⟩) ⟨rfl, rfl, rfl, rfl, rfl, rfl, rfl, trivial⟩
        rw [hsn']
        simp [seqC]
      rintro _ _ L5 ⟨rfl, ⟨l2, hB5, hl2⟩, rfl⟩
      have hz2 := congrArg List.length hl2
      simp only [List.length_append, ba_len, List.length_singleton] at hz2
      have hxz : x.size ≤ 16384 := by have h1 := cat_mem hxm; have h2 := app_size hh (cat xs); rw [← k2] at h2; omega
      refine yy ?_
      refine yy ?_
      refine yy ?_
      refine yy ?_
      refine yy ?_
      refine runL_as 65 (iv k) rfl (congrArg (Value.int .i64) hw) ?_
      refine oc (stell_ok k (by omega) x (k3 x hxm) hxz _ _ R b (pt b) l2 (.inr rfl) hB5 (by omega)) ?_
      rintro _ M3 L6 ⟨hM3, hB6⟩
      rw [hl2] at hB6
      repeat (first | refine yy ?_ | refine yx fun _ => ?_)
      exact run_sub' (hnext _ _ _ ⟨hlt, Mem.le_trans hM2 hM3, hB6, rfl⟩) ⟨lk_succ rfl (by omega), rfl, rfl, rfl, rfl, rfl, trivial⟩
    · have hge : j = sn := by simp at h5; omega
      subst hge
      rw [List.take_of_length_le (by omega)] at hB4
      repeat (first | refine yy ?_ | refine yx fun _ => ?_ | refine rq (qt_strLo (n := 1) tok rfl rfl rfl (fun _ => by rw [hs2]; decide)) ?_ | (refine oc (bW_ok _ _ R b (pt b) _ ⟨#[c]⟩ (.inr rfl) hB4 (by simp only [List.length_append, ba_len, List.length_singleton]; show _ + 1 < _; omega)) ?_; rintro _ _ L5 ⟨rfl, hB5⟩))
      refine run_end hC rfl (vs := []) trivial (fun _ h => h) ⟨Mem.le_trans hM1 hM2, ?_⟩
      rw [hall]
      simpa using hB5
end Go.Proofs.YtladcmfbkiogbaaGreatDoor
namespace Go.Proofs.YtladcmfbkiogbaaGreatDoor
open Go.Chi
set_option maxRecDepth 10000
theorem line_pos {k : Nat} {t : ByteArray} : 1 ≤ (lineB k t).size := by
  cases k with
  | zero => show 1 ≤ 2; decide
  | succ k =>
    have e1 : (⟨#[36]⟩ : ByteArray).size = 1 := rfl
    have e3 : (⟨#[93]⟩ : ByteArray).size = 1 := rfl
    have e5 : (⟨#[41]⟩ : ByteArray).size = 1 := rfl
    rw [lineB]
    repeat' split
    · unfold datumB
      split
      · rw [app_size]; have : (⟨#[34]⟩ : ByteArray).size = 1 := rfl; omega
      · rw [← ba_len]; simp
    · rw [app_size]; omega
    · rw [app_size]; omega
    · rw [app_size]; omega
def lineE (t : ByteArray) : ByteArray × Int := if mayB t = true then (lineB 16 t, 0) else (⟨#[]⟩, 2)
theorem mayB_ck (t : ByteArray) : (checkR t != 0) = !mayB t := by rw [mayB]; by_cases h : checkR t = 0 <;> simp [h]
set_option maxHeartbeats 4000000 in
theorem sbrief_ok (M : Mem) (L : HL) (t : ByteArray) (hz : t.size < 1000000) : TrQ Tryz.prog 181 [.string t, iv 16] M L (.tuple ⟨[.string (lineE t).1, .int .i64 (lineE t).2]⟩) := by
  refine Tr.intro 14 Tryz.func181 rfl rfl Tryz.call181 rfl ?_; intro C hC hro
  repeat (first | refine yy ?_ | refine yx fun _ => ?_ | refine qc (check_ok _ _ t (by omega)) ?_)
  refine run_cond (t := checkR t != 0) rfl (fun h => ?_) (fun h => ?_)
  · have h0 : mayB t = false := by rw [mayB_ck] at h; simpa using h
    repeat (first | refine yy ?_ | refine yx fun _ => ?_)
    exact run_ret hC (rs := [.tmp 4, .tmp 5]) rfl (resT rfl (resT rfl resN)) (fun _ h => h) ⟨by rw [lineE, if_neg (by rw [h0]; decide)]; rfl, rfl, rfl⟩
  have h0 : mayB t = true := by rw [mayB_ck] at h; simpa using h
  obtain ⟨hT, hz2⟩ := (mayB_iff (by omega)).1 h0
  have hls := line_size 16 (Nat.le_refl _) t hT (by omega)
  have he : lineE t = (lineB 16 t, 0) := by rw [lineE, if_pos h0]
  repeat (first | refine yy ?_ | refine yx fun _ => ?_)
  rename_i b6
  repeat (first | refine yy ?_ | refine yx fun _ => ?_ | (refine oc (stell_ok 16 (Nat.le_refl _) t hT hz2 _ _ L b6 (.pointer none) [] (.inl rfl) ⟨_, [], rfl, bdS_nil⟩ (by simp only [List.length_nil]; omega)) ?_; rintro _ M1 _ ⟨hM1, v, N, rfl, hO⟩))
  rw [List.nil_append] at hO
  have hpos := line_pos (k := 16) (t := t)
  have hl := ba_len (lineB 16 t)
  repeat (first | refine yy ?_ | refine yx fun _ => ?_ | (refine oc (bStr_ok _ _ L N b6 (pt b6) v (lineB 16 t) (List.perm_middle (l₁ := N)) (hO.f (fun h => by rw [h] at hl; simp at hl; omega)) hpos (by omega)) ?_; rintro _ _ _ ⟨rfl, rfl, N3, rfl, hO3⟩))
  exact run_ret hC (rs := [.tmp 4, .tmp 5]) rfl (resT rfl (resT rfl resN)) (fun _ h => (h.drop.dropAll).of_le hM1) ⟨by rw [he]; rfl, rfl, rfl⟩
theorem sline_ok (M : Mem) (L : HL) (t : ByteArray) (hz : t.size < 1000000) : TrQ Tryz.prog 142 [.string t] M L (.tuple ⟨[.string (lineE t).1, .int .i64 (lineE t).2]⟩) := by
  refine Tr.intro 8 Tryz.func142 rfl rfl Tryz.call142 rfl ?_; intro C hC hro
  repeat (first | refine yy ?_ | refine yx fun _ => ?_ | refine qc (sbrief_ok _ _ t hz) ?_)
  exact run_ret hC (rs := [.tmp 2, .tmp 3]) rfl (resT rfl (resT rfl resN)) (fun _ h => h) ⟨rfl, rfl, rfl⟩
end Go.Proofs.YtladcmfbkiogbaaGreatDoor
namespace Go.Proofs.YtladcmfbkiogbaaGreatDoor
open Go.Chi
set_option maxRecDepth 10000
def orgW (n : Int) : Bool := decide (n ≥ 0) && decide (n < 8)
theorem worg_ok (M : Mem) (L : HL) (n : Int) : TrQ Tryz.prog 81 [.int .i64 n] M L (.bool (orgW n)) := by
  refine Tr.intro 9 Tryz.func81 rfl rfl Tryz.call81 rfl ?_; intro C hC hro
  repeat (first | refine zz ?_ | refine zx fun _ => ?_)
  exact run_ret hC (rs := [.tmp 2]) rfl (resT rfl resN) (fun _ h => h) ⟨rfl, rfl, rfl⟩
def mayTx (t : Tx) : Bool := (((orgW t.coord && decide (t.epoch ≥ 1)) && decide (t.epoch ≤ 255)) && decide (t.seq ≥ 1)) && decide (t.seq ≤ 65535)
theorem mayTx_ok (M : Mem) (L : HL) (t : Tx) : TrQ Tryz.prog 42 [.agg ⟨txC t⟩] M L (.bool (mayTx t)) := by
  refine Tr.intro 26 Tryz.func42 rfl rfl Tryz.call42 rfl ?_; intro C hC hro
  repeat (first | refine zz ?_ | refine zx fun _ => ?_ | refine runL_q (qt_callF rfl (fun _ => worg_ok _ _ _)) rfl rfl rfl ?_)
  exact run_ret hC (rs := [.tmp 2]) rfl (resT rfl resN) (fun _ h => h.drop) ⟨rfl, rfl, rfl⟩
end Go.Proofs.YtladcmfbkiogbaaGreatDoor
namespace Go.Proofs.YtladcmfbkiogbaaGreatDoor
open Go.Chi
set_option maxRecDepth 10000
theorem u8_mod (w : Nat) : IntKind.u8.wrap (w : Int) = ((w % 256 : Nat) : Int) := by
  simp only [IntKind.wrap, IntKind.signed, IntKind.bits]
  simp
theorem shr8 (w : Nat) : ishr .u64 (w : Int) 8 = ((w / 256 : Nat) : Int) := by
  have : ishr .u64 (w : Int) 8 = (w : Int).fdiv 256 := rfl
  rw [this]
  exact Int.ofNat_fdiv w 256 |>.symm
set_option maxRecDepth 10000 in
set_option maxHeartbeats 4000000 in
theorem onum_ok (M : Mem) (L : HL) (v : Nat) (hv : v < 18446744073709551616) : TrQ Tryz.prog 243 [.int .u64 (v : Int)] M L (.string (numB v)) := by
  have hlen := digN_len hv
  refine Tr.intro 31 Tryz.func243 rfl rfl Tryz.call243 rfl ?_; intro C hC hro
  repeat (first | refine zz ?_ | refine zx fun _ => ?_)
  refine run_cond rfl (fun h => ?_) (fun h => ?_)
  · have h0 : v < 248 := by simp at h; omega
    repeat (first | refine zz ?_ | refine zx fun _ => ?_ | refine runL_q (qt_bytesStr tok [IntKind.u8.wrap (v : Int)] rfl rfl rfl rfl (cellsAll List.mem_cons_self) rfl) rfl rfl rfl ?_)
    exact run_ret hC (rs := [.tmp 2]) rfl (resT rfl resN) (fun _ h => h.drop) ⟨by rw [numB, if_pos h0]; rfl, rfl, rfl⟩
  · have h0 : ¬ v < 248 := by simp at h; omega
    repeat (first | refine zz ?_ | refine zx fun _ => ?_)
    rename_i b
    refine run_loopN (fun i σ1 M1 L1 => i ≤ 8 ∧ ∃ (w : Nat) (ns : List Int) (cs : List Value), digN v = digN w ++ bytesI ns ∧ ns.length = i ∧ w < 18446744073709551616 ∧ cs.length = 9 ∧ cs.drop (9 - i) = ns.map (Value.int .u8) ∧ σ1 = [(4, .int .i64 ((9 - i : Nat) : Int)), (3, .pointer (some ⟨b, 0, none⟩)), (2, .string ⟨#[]⟩), (0, .int .u64 (w : Int))] ∧ M = M1 ∧ L1 = (b, Obj.cells ⟨cs⟩ 261 (0, 0)) :: L) 8 [(4, .int .i64 ((9 - 0 : Nat) : Int)), (3, .pointer (some ⟨b, 0, none⟩)), (2, .string ⟨#[]⟩), (0, .int .u64 (v : Int))] ?_ ⟨Nat.zero_le _, v, [], _, (app_nil _).symm, rfl, hv, rfl, rfl, rfl, rfl, rfl⟩ (fun j _ _ _ h => h.1) ?_
    · exact ⟨rfl, rfl, rfl, rfl, trivial⟩
    rintro i _ _ _ ⟨hi, w, ns, cs, hd, hns, hw, hcs, hdr, rfl, rfl, rfl⟩ hnext
    have hsz := congrArg ByteArray.size hd
    rw [app_size] at hsz
    have hbn : (bytesI ns).size = i := by
      rw [← ba_len, bytesI_list, List.length_map, hns]
    repeat (first | refine zz ?_ | refine zx fun _ => ?_)
    refine run_cond rfl (fun h5 => ?_) (fun h5 => ?_)
    · have hw0 : w ≠ 0 := by simp at h5; omega
      have hdw : digN w = digN (w / 256) ++ bytesI [((w % 256 : Nat) : Int)] := by rw [digN, if_neg hw0]
      have hsw := congrArg ByteArray.size hdw
      rw [app_size, bytesI_one] at hsw
      have hi8 : i < 8 := by omega
      have e1 : IntKind.i64.wrap (((9 - i : Nat) : Int) - 1) = ((9 - (i + 1) : Nat) : Int) := by
        rw [show ((9 - i : Nat) : Int) - 1 = ((9 - (i + 1) : Nat) : Int) by omega, wrap64_nat (by omega)]
      repeat (first | refine zz ?_ | refine zx fun _ => ?_)
      refine runL_as 4 (.int .i64 ((9 - (i + 1) : Nat) : Int)) rfl (by rw [e1]) ?_
      refine runL_as 17 (.int .i64 ((9 - (i + 1) : Nat) : Int)) rfl (by rw [e1]) ?_
      refine runL_as 19 (.int .u8 ((w % 256 : Nat) : Int)) rfl (by rw [u8_mod]) ?_
      repeat (first | refine zz ?_ | refine zx fun _ => ?_ | refine runL_q (qt_indexA (n := 9 - (i + 1)) tok rfl rfl rfl rfl (fun _ => by omega)) rfl rfl rfl ?_)
      refine runL_op0 (st_store tok rfl rfl rfl rfl rfl (Upd.here _ _ _ _) (setE_of (cs := cs) (off := 0 + (9 - (i + 1)) * 1) (vs := [.int .u8 ((w % 256 : Nat) : Int)]) (by rw [List.length_singleton]; omega))) ?_
      rintro _ _ _ ⟨rfl, rfl, rfl⟩
      repeat (first | refine zz ?_ | refine zx fun _ => ?_ | refine runL_q (qt_shr rfl rfl (fun _ => by decide)) rfl rfl rfl ?_)
      refine run_as 0 (.int .u64 ((w / 256 : Nat) : Int)) rfl (by rw [shr8]) ?_
      have hk : 9 - (i + 1) + 1 ≤ cs.length := by omega
      obtain ⟨h6, h7⟩ := setSeg_tail (cs := cs) (.int .u8 ((w % 256 : Nat) : Int)) hk
      refine run_sub' (hnext _ _ _ ⟨by omega, w / 256, ((w % 256 : Nat) : Int) :: ns, _, ?_, by simp [hns], by omega, ?_, ?_, rfl, rfl, rfl⟩) ⟨rfl, rfl, rfl, rfl, trivial⟩
      · rw [hd, hdw, app_assoc, ← bytesI_app]; rfl
      · simp only [Nat.mul_one, Nat.zero_add]
        exact h6.trans hcs
      · simp only [Nat.mul_one, Nat.zero_add]
        refine h7.trans ?_
        rw [show 9 - (i + 1) + 1 = 9 - i by omega, hdr]
        rfl
    · have hw0 : w = 0 := by simp at h5; omega
      subst hw0
      rw [digN_zero, nil_app] at hd
      have hik : i = (digN v).size := by rw [hd]; omega
      have e1 : IntKind.i64.wrap (((9 - i : Nat) : Int) - 1) = ((8 - i : Nat) : Int) := by
        rw [show ((9 - i : Nat) : Int) - 1 = ((8 - i : Nat) : Int) by omega, wrap64_nat (by omega)]
      have e2 : IntKind.u8.wrap (IntKind.i64.wrap (255 - ((8 - i : Nat) : Int))) = ((247 + i : Nat) : Int) := by
        rw [show 255 - ((8 - i : Nat) : Int) = ((247 + i : Nat) : Int) by omega, wrap64_nat (by omega), u8_nat (by omega)]
      repeat (first | refine zz ?_ | refine zx fun _ => ?_)
      refine runL_as 4 (.int .i64 ((8 - i : Nat) : Int)) rfl (by rw [e1]) ?_
      refine runL_as 23 (.int .i64 ((8 - i : Nat) : Int)) rfl (by rw [e1]) ?_
      refine runL_as 26 (.int .u8 ((247 + i : Nat) : Int)) rfl (by rw [e1, e2]) ?_
      repeat (first | refine zz ?_ | refine zx fun _ => ?_ | refine runL_q (qt_indexA (n := 8 - i) tok rfl rfl rfl rfl (fun _ => by omega)) rfl rfl rfl ?_)
      refine runL_op0 (st_store tok rfl rfl rfl rfl rfl (Upd.here _ _ _ _) (setE_of (cs := cs) (off := 0 + (8 - i) * 1) (vs := [.int .u8 ((247 + i : Nat) : Int)]) (by rw [List.length_singleton]; omega))) ?_
      rintro _ _ _ ⟨rfl, rfl, rfl⟩
      obtain ⟨h6, h7⟩ := setSeg_tail (cs := cs) (k := 8 - i) (.int .u8 ((247 + i : Nat) : Int)) (by omega)
      repeat (first | refine zz ?_ | refine zx fun _ => ?_ | refine runL_q (qt_sliceArr (n := 8 - i) tok rfl rfl rfl rfl (fun _ => by omega)) rfl rfl rfl ?_ | refine runL_q (qt_bytesStrO tok (((247 + i : Nat) : Int) :: ns) rfl rfl rfl rfl (Cells.tail (cs := setSeg cs (0 + (8 - i) * 1) [.int .u8 ((247 + i : Nat) : Int)]) List.mem_cons_self (by simp only [Nat.mul_one, Nat.zero_add]; rw [h7, show 8 - i + 1 = 9 - i by omega, hdr]; rfl)) (by rw [List.length_cons]; omega)) rfl rfl rfl ?_)
      refine run_ret hC (rs := [.tmp 2]) rfl (resT rfl resN) (fun _ h => h.drop) ⟨?_, rfl, rfl⟩
      rw [(numB_big h0 hv).1, ← hik, show ((247 + i : Nat) : Int) :: ns = [((247 + i : Nat) : Int)] ++ ns from rfl, bytesI_app, ← hd]
      rfl
set_option maxRecDepth 10000 in
set_option maxHeartbeats 4000000 in
theorem otext_ok (M : Mem) (L : HL) (s : ByteArray) (hs : s.size < 2305843009213693952) : TrQ Tryz.prog 214 [.string s] M L (.string (textB s)) := by
  have hz := numB_size (v := s.size) (by omega)
  have e1 : IntKind.u64.wrap (s.size : Int) = (s.size : Int) := u64_nat (by omega)
  refine Tr.intro 9 Tryz.func214 rfl rfl Tryz.call214 rfl ?_; intro C hC hro
  repeat (first | refine zz ?_ | refine zx fun _ => ?_)
  refine runL_as 5 (.int .u64 (s.size : Int)) rfl (by rw [e1]) ?_
  repeat (first | refine zz ?_ | refine zx fun _ => ?_ | refine runL_q (qt_callF rfl (fun _ => onum_ok _ _ s.size (by omega))) rfl rfl rfl ?_ | refine runL_q (qt_concat rfl rfl (by omega)) rfl rfl rfl ?_)
  exact run_ret hC (rs := [.tmp 2]) rfl (resT rfl resN) (fun _ h => h) ⟨rfl, rfl, rfl⟩
end Go.Proofs.YtladcmfbkiogbaaGreatDoor
namespace Go.Proofs.YtladcmfbkiogbaaGreatDoor
open Go.Chi
set_option maxRecDepth 10000
theorem cat_snoc (xs : List ByteArray) (x : ByteArray) : cat (xs ++ [x]) = cat xs ++ x := by
  induction xs with
  | nil => rw [List.nil_append, cat, cat, cat, app_nil, nil_app]
  | cons y ys ih => rw [List.cons_append, cat, ih, cat, app_assoc]
theorem cat_take_le (xs : List ByteArray) : ∀ j, (cat (xs.take j)).size ≤ (cat xs).size := by
  induction xs with
  | nil => intro j; rw [List.take_nil]; exact Nat.le_refl _
  | cons y ys ih =>
    intro j
    cases j with
    | zero => exact Nat.zero_le _
    | succ j => rw [List.take_succ_cons, cat, cat, app_size, app_size]; have := ih j; omega
def madeE (pre : ByteArray) (xs : List ByteArray) : ByteArray × Int := if xs.all mayB = true then if mayB (pre ++ cat xs) = true then (pre ++ cat xs, 0) else (⟨#[]⟩, 5) else (⟨#[]⟩, 2)
def resE (e : ByteArray × Int) : Value := .tuple ⟨[.string e.1, .int .i64 e.2]⟩
theorem mayB_sz {t : ByteArray} (hz : t.size < 4611686018427387904) (h : mayB t = true) : t.size ≤ 16384 := ((mayB_iff hz).1 h).2
set_option maxHeartbeats 8000000 in
theorem made_ok (M : Mem) (s : SStr) (h : StOk M s) (pre : ByteArray) (hp : 1 ≤ pre.size) (hp2 : pre.size ≤ 16384) (hz : (cat s.xs).size < 1000000000) : TrQ Tryz.prog 246 [.string pre, s.v] M [] (resE (madeE pre s.xs)) := by
  have hlen := h.len
  have h6 := h.2
  have hsz : ∀ t ∈ s.xs, t.size < 1000000000 := fun t ht => by have := cat_mem ht; omega
  have h0 := h.1
  simp only [SStr.Ok] at h0
  have hty := isM_ok M s h (fun t ht => by have := hsz t ht; omega)
  have hzj : ∀ j, (pre ++ cat (s.xs.take j)).size < 1000020000 := fun j => by have := cat_take_le s.xs j; rw [app_size]; omega
  obtain ⟨a, n, c, xs⟩ := s
  simp only [SStr.v] at *
  refine Tr.intro 29 Tryz.func246 rfl rfl Tryz.call246 rfl ?_; intro C hC hro
  repeat (first | refine yy ?_ | refine yx fun _ => ?_ | refine qc hty ?_)
  refine run_cond (t := !(xs.all mayB)) rfl (fun h => ?_) (fun h => ?_)
  · have he : madeE pre xs = (⟨#[]⟩, 2) := if_neg (by simpa using h)
    repeat (first | refine yy ?_ | refine yx fun _ => ?_)
    exact run_ret hC (rs := [.tmp 4, .tmp 5]) rfl (resT rfl (resT rfl resN)) (fun _ h => h) ⟨by rw [he]; rfl, rfl, rfl⟩
  have ha : xs.all mayB = true := by simpa using h
  repeat (first | refine yy ?_ | refine yx fun _ => ?_)
  rename_i b6
  have hpre := ba_len pre
  repeat (first | refine yy ?_ | refine yx fun _ => ?_ | (refine oc (bWrite_ok _ _ [] [] b6 (.pointer none) _ [] pre (List.Perm.refl _) (.inl rfl) bdS_nil (by rw [List.length_nil]; omega)) ?_; rintro _ M' _ ⟨hM', v0, N0, rfl, hO0⟩))
  subst hM'
  rw [List.nil_append] at hO0
  refine run_loopN (fun j σ1 M1 L1 => j ≤ n ∧ M = M1 ∧ (∃ v N, L1 = N ++ [(b6, bdO (pt b6) v)] ∧ BdS v (pre ++ cat (xs.take j)).data.toList N) ∧ σ1 = [(16, iv j), (15, iv n), (14, .slice a n c), (6, pt b6)]) n [(16, iv 0), (15, iv n), (14, .slice a n c), (6, pt b6)] ?_ ⟨Nat.zero_le _, rfl, ⟨v0, N0, rfl, by rw [List.take_zero, cat, app_nil]; exact hO0⟩, rfl⟩ (fun j _ _ _ h => h.1) ?_
  · exact ⟨rfl, rfl, rfl, rfl, trivial⟩
  clear hO0
  rintro j _ M1 _ ⟨hj, rfl, ⟨v, N, rfl, hO⟩, rfl⟩ hnext
  obtain ⟨av, cv, rfl⟩ := osH hO
  have hzn := hzj j
  have hln := ba_len (pre ++ cat (xs.take j))
  have hmm : (b6, bdO (pt b6) (.slice av (pre ++ cat (xs.take j)).data.toList.length cv)) ∈ N ++ [(b6, bdO (pt b6) (.slice av (pre ++ cat (xs.take j)).data.toList.length cv))] := List.mem_append_right _ List.mem_cons_self
  have hT1 : 1 ≤ (pre ++ cat (xs.take j)).size := by rw [app_size]; omega
  have hOf := hO.f (fun h => by rw [h] at hln; simp at hln; omega)
  repeat (first | refine yy ?_ | refine yx fun _ => ?_)
  refine run_cond rfl (fun h1 => ?_) (fun h1 => ?_)
  · have hlt : j < n := by simpa using h1
    obtain ⟨b, off, x, rfl, hx, hc⟩ := SStr.at_ h0 hlt
    have hxz := hsz x (List.mem_of_getElem? hx)
    repeat (first | refine yy ?_ | refine yx fun _ => ?_ | refine runL_q (qt_indexN tok rfl rfl rfl rfl (fun _ => by omega)) rfl rfl rfl ?_ | refine runL_g rfl rfl (qt_indexN tok rfl rfl rfl rfl (fun _ => by omega)) rfl rfl rfl rfl rfl ?_ | refine runL_q (qt_ldM tok rfl hc rfl) rfl rfl rfl ?_ | refine runL_g rfl rfl (qt_ldM tok rfl hc rfl) rfl rfl rfl rfl rfl ?_ | refine runL_q (qt_ldM0 tok rfl hc rfl) rfl rfl rfl ?_ | refine runL_g rfl rfl (qt_ldM0 tok rfl hc rfl) rfl rfl rfl rfl rfl ?_ | refine qc (bLen_ok _ _ b6 _ _ _ _ hmm) ?_)
    refine run_cond (t := decide ((((pre ++ cat (xs.take j)).data.toList.length : Nat) : Int) > 16384)) rfl (fun h => ?_) (fun _ => ?_)
    · have h2 := of_decide_eq_true h
      have hck : checkR (pre ++ cat (xs.take j)) ≠ 0 := fun e => by have := mayB_sz (by omega) (show mayB (pre ++ cat (xs.take j)) = true from decide_eq_true e); omega
      have he : madeE pre xs = (⟨#[]⟩, 5) := by
        rw [madeE, if_pos ha, if_neg]
        intro e; have := mayB_sz (by rw [app_size]; omega) e; have := cat_take_le xs j; rw [app_size] at *; omega
      generalize pre ++ cat (xs.take j) = T at *
      repeat (first | refine yy ?_ | refine yx fun _ => ?_ | (refine oc (bStr_ok _ _ [] N b6 (pt b6) _ T (by rw [List.append_nil]; exact List.perm_append_comm) hOf hT1 (by omega)) ?_; rintro _ M' _ ⟨hM', rfl, N3, rfl, hO3⟩) | subst hM' | refine qc (check_ok _ _ T (by omega)) ?_)
      refine run_cond (t := checkR T != 0) rfl (fun h => ?_) (fun h => absurd (by simpa using h) hck)
      repeat (first | refine yy ?_ | refine yx fun _ => ?_)
      exact run_ret hC (rs := [.tmp 4, .tmp 5]) rfl (resT rfl (resT rfl resN)) (fun _ h => (h.drop).dropAll) ⟨by rw [he]; rfl, rfl, rfl⟩
    repeat (first | refine yy ?_ | refine yx fun _ => ?_ | (refine oc (bWrite_ok _ _ [] N b6 (pt b6) _ _ x (by rw [List.append_nil]; exact List.perm_append_comm) (.inr rfl) hO (by omega)) ?_; rintro _ M' _ ⟨hM', v1, N1, rfl, hO1⟩) | subst hM')
    rw [← ba_app, app_assoc, ← cat_snoc] at hO1
    exact run_sub' (hnext _ _ _ ⟨hlt, rfl, ⟨v1, N1, rfl, by rw [take_snoc hx]; exact hO1⟩, rfl⟩) ⟨lk_succ rfl (by omega), rfl, rfl, rfl, trivial⟩
  · have hge : j = n := by simp at h1; omega
    subst hge
    have htk : xs.take j = xs := List.take_of_length_le (by omega)
    rw [htk] at hOf hln hmm hzn hT1 ⊢
    have he : madeE pre xs = if mayB (pre ++ cat xs) = true then (pre ++ cat xs, 0) else (⟨#[]⟩, 5) := if_pos ha
    generalize pre ++ cat xs = T at *
    repeat (first | refine yy ?_ | refine yx fun _ => ?_ | (refine oc (bStr_ok _ _ [] N b6 (pt b6) _ T (by rw [List.append_nil]; exact List.perm_append_comm) hOf hT1 (by omega)) ?_; rintro _ M' _ ⟨hM', rfl, N3, rfl, hO3⟩) | subst hM' | refine qc (check_ok _ _ T (by omega)) ?_)
    refine run_cond (t := checkR T != 0) rfl (fun h => ?_) (fun h => ?_)
    · rw [if_neg (by rw [mayB]; simpa using h)] at he
      repeat (first | refine yy ?_ | refine yx fun _ => ?_)
      exact run_ret hC (rs := [.tmp 4, .tmp 5]) rfl (resT rfl (resT rfl resN)) (fun _ h => (h.drop).dropAll) ⟨by rw [he]; rfl, rfl, rfl⟩
    rw [if_pos (by rw [mayB]; simpa using h)] at he
    repeat (first | refine yy ?_ | refine yx fun _ => ?_ | (refine oc (bStr_ok _ _ [] N3 b6 (pt b6) _ T (List.Perm.refl _) hO3 hT1 (by omega)) ?_; rintro _ M' _ ⟨hM', rfl, N4, rfl, hO4⟩) | subst hM')
    exact run_ret hC (rs := [.tmp 4, .tmp 5]) rfl (resT rfl (resT rfl resN)) (fun _ h => (h.drop).dropAll) ⟨by rw [he]; rfl, rfl, rfl⟩
theorem strs_flat : ∀ l : List ByteArray, l.map Value.string = (l.map stC).flatten
  | [] => rfl
  | x :: l => by rw [List.map_cons, List.map_cons, List.flatten_cons, ← strs_flat l]; rfl
theorem madeOwn_ok (M : Mem) (L : HL) (b n : Nat) (pre : ByteArray) (xs : List ByteArray) (cs : List Value) (hcs : cs = xs.map .string) (hm : (b, Obj.cells ⟨cs⟩ 9 (0, 0)) ∈ L) (hn : n = xs.length) (hn2 : n < 1000000) (hp : 1 ≤ pre.size) (hp2 : pre.size ≤ 16384) (hz : (cat xs).size < 1000000000) :
    TrQ Tryz.prog 246 [.string pre, .slice (some ⟨b, 0, none⟩) n n] M L (.tuple ⟨[.string (madeE pre xs).1, .int .i64 (madeE pre xs).2]⟩) :=
  TrQ.lend (fun w => Tryz.call246 _ w) fun M' _ hb => by
    have hs : StOk M' ⟨some ⟨b, 0, none⟩, n, n, xs⟩ := ⟨by
      have := SlM.ofBlk (size := 1) (ls := xs.map stC) (hb _ _ hm) (by rw [hcs, strs_flat]) (fun c hc => by obtain ⟨x, _, rfl⟩ := List.mem_map.1 hc; rfl)
      rw [List.length_map, ← hn] at this
      exact this, hn2⟩
    exact made_ok M' _ hs pre hp hp2 hz
theorem hash_ok (M : Mem) (L : HL) (x : ByteArray) (hz : x.size < 100000000) : TrQ Tryz.prog 234 [.string x] M L (resE (madeE ⟨#[104]⟩ [x])) := by
  have hcat : cat [x] = x := by rw [cat, cat, app_nil]
  refine Tr.intro 9 Tryz.func234 rfl rfl Tryz.call234 rfl ?_; intro C hC hro
  repeat (first | refine yy ?_ | refine yx fun _ => ?_)
  repeat (first | refine yy ?_ | refine yx fun _ => ?_ | refine qc (madeOwn_ok _ _ _ _ ⟨#[104]⟩ [x] _ rfl List.mem_cons_self rfl (by simp) (by decide) (by decide) (by rw [hcat]; omega)) ?_)
  exact run_ret hC (rs := [.tmp 2, .tmp 3]) rfl (resT rfl (resT rfl resN)) (fun _ h => h.drop) ⟨rfl, rfl, rfl⟩
theorem mac_ok (M : Mem) (L : HL) (x y : ByteArray) (hx : x.size < 100000000) (hy : y.size < 100000000) : TrQ Tryz.prog 235 [.string x, .string y] M L (resE (madeE ⟨#[109]⟩ [x, y])) := by
  have hcat : cat [x, y] = x ++ y := by rw [cat, cat, cat, app_nil]
  refine Tr.intro 12 Tryz.func235 rfl rfl Tryz.call235 rfl ?_; intro C hC hro
  repeat (first | refine yy ?_ | refine yx fun _ => ?_)
  repeat (first | refine yy ?_ | refine yx fun _ => ?_ | refine qc (madeOwn_ok _ _ _ _ ⟨#[109]⟩ [x, y] _ rfl List.mem_cons_self rfl (by simp) (by decide) (by decide) (by rw [hcat, app_size]; omega)) ?_)
  exact run_ret hC (rs := [.tmp 4, .tmp 5]) rfl (resT rfl (resT rfl resN)) (fun _ h => h.drop) ⟨rfl, rfl, rfl⟩
theorem seal_ok (M : Mem) (L : HL) (x y z : ByteArray) (hx : x.size < 100000000) (hy : y.size < 100000000) (hz : z.size < 100000000) : TrQ Tryz.prog 236 [.string x, .string y, .string z] M L (resE (madeE ⟨#[115]⟩ [x, y, z])) := by
  have hcat : cat [x, y, z] = x ++ (y ++ z) := by rw [cat, cat, cat, cat, app_nil]
  refine Tr.intro 15 Tryz.func236 rfl rfl Tryz.call236 rfl ?_; intro C hC hro
  repeat (first | refine yy ?_ | refine yx fun _ => ?_)
  repeat (first | refine yy ?_ | refine yx fun _ => ?_ | refine qc (madeOwn_ok _ _ _ _ ⟨#[115]⟩ [x, y, z] _ rfl List.mem_cons_self rfl (by simp) (by decide) (by decide) (by rw [hcat, app_size, app_size]; omega)) ?_)
  exact run_ret hC (rs := [.tmp 6, .tmp 7]) rfl (resT rfl (resT rfl resN)) (fun _ h => h.drop) ⟨rfl, rfl, rfl⟩
def dataE (s : ByteArray) : ByteArray × Int := if 1024 < s.size then (⟨#[]⟩, 5) else ((⟨#[100]⟩ : ByteArray) ++ textB s, 0)
theorem textB_sz {t : ByteArray} (h : t.size < 1099511627776) : (textB t).size ≤ t.size + 9 := by
  have := numB_size (v := t.size) (by omega)
  rw [textB, app_size]; omega
theorem data_ok (M : Mem) (L : HL) (s : ByteArray) (hs : s.size < 1000000000) : TrQ Tryz.prog 182 [.string s] M L (resE (dataE s)) := by
  refine Tr.intro 10 Tryz.func182 rfl rfl Tryz.call182 rfl ?_; intro C hC hro
  repeat (first | refine yy ?_ | refine yx fun _ => ?_)
  refine run_cond (t := decide ((s.size : Int) > 1024)) rfl (fun h => ?_) (fun h => ?_)
  · have h1 := of_decide_eq_true h
    have he : dataE s = (⟨#[]⟩, 5) := if_pos (by omega)
    repeat (first | refine yy ?_ | refine yx fun _ => ?_)
    exact run_ret hC (rs := [.tmp 2, .tmp 3]) rfl (resT rfl (resT rfl resN)) (fun _ h => h) ⟨by rw [he]; rfl, rfl, rfl⟩
  have h1 := of_decide_eq_false h
  have he : dataE s = ((⟨#[100]⟩ : ByteArray) ++ textB s, 0) := if_neg (by omega)
  have hc := textB_sz (t := s) (by omega)
  have hc2 : (⟨#[100]⟩ : ByteArray).size = 1 := rfl
  repeat (first | refine yy ?_ | refine yx fun _ => ?_ | refine qc (otext_ok _ _ s (by omega)) ?_)
  exact run_ret hC (rs := [.tmp 2, .tmp 3]) rfl (resT rfl (resT rfl resN)) (fun _ h => h) ⟨by rw [he]; rfl, rfl, rfl⟩
def atomE (s : ByteArray) : ByteArray × Int := if 32 < s.size then (⟨#[]⟩, 5) else if namedR s = true then ((⟨#[97]⟩ : ByteArray) ++ textB s, 0) else (⟨#[]⟩, 7)
theorem atom_ok (M : Mem) (L : HL) (s : ByteArray) (hs : s.size < 1000000000) : TrQ Tryz.prog 229 [.string s] M L (resE (atomE s)) := by
  refine Tr.intro 15 Tryz.func229 rfl rfl Tryz.call229 rfl ?_; intro C hC hro
  repeat (first | refine yy ?_ | refine yx fun _ => ?_)
  refine run_cond (t := decide ((s.size : Int) > 32)) rfl (fun h => ?_) (fun h => ?_)
  · have h1 := of_decide_eq_true h
    have he : atomE s = (⟨#[]⟩, 5) := if_pos (by omega)
    repeat (first | refine yy ?_ | refine yx fun _ => ?_)
    exact run_ret hC (rs := [.tmp 2, .tmp 3]) rfl (resT rfl (resT rfl resN)) (fun _ h => h) ⟨by rw [he]; rfl, rfl, rfl⟩
  have h1 := of_decide_eq_false h
  have he : atomE s = if namedR s = true then ((⟨#[97]⟩ : ByteArray) ++ textB s, 0) else (⟨#[]⟩, 7) := if_neg (by omega)
  repeat (first | refine yy ?_ | refine yx fun _ => ?_ | refine qc (named_ok _ _ s) ?_)
  refine run_cond (t := !namedR s) rfl (fun h => ?_) (fun h => ?_)
  · rw [if_neg (by simpa using h)] at he
    repeat (first | refine yy ?_ | refine yx fun _ => ?_)
    exact run_ret hC (rs := [.tmp 2, .tmp 3]) rfl (resT rfl (resT rfl resN)) (fun _ h => h) ⟨by rw [he]; rfl, rfl, rfl⟩
  rw [if_pos (by simpa using h)] at he
  have hc := textB_sz (t := s) (by omega)
  have hc2 : (⟨#[97]⟩ : ByteArray).size = 1 := rfl
  repeat (first | refine yy ?_ | refine yx fun _ => ?_ | refine qc (otext_ok _ _ s (by omega)) ?_)
  exact run_ret hC (rs := [.tmp 2, .tmp 3]) rfl (resT rfl (resT rfl resN)) (fun _ h => h) ⟨by rw [he]; rfl, rfl, rfl⟩
theorem row_ok (M : Mem) (L : HL) (s : SStr) (h : StOk M s) (hz : (cat s.xs).size < 1000000000) : TrQ Tryz.prog 232 [s.v] M L (resE (madeE ((⟨#[114]⟩ : ByteArray) ++ numB s.xs.length) s.xs)) := by
  have hl := h.len
  have h6 := h.2
  have hb := numB_size (v := s.xs.length) (by omega)
  have hr : (⟨#[114]⟩ : ByteArray).size = 1 := rfl
  have hq := fun L => TrQ.lend (L := L) (fun w => Tryz.call246 _ w) fun M' hm _ => made_ok M' s (h.le hm) ((⟨#[114]⟩ : ByteArray) ++ numB s.xs.length) (by rw [app_size]; omega) (by rw [app_size]; omega) hz
  have e1 : IntKind.u64.wrap (s.len : Int) = (s.xs.length : Int) := by rw [u64_nat (by omega), hl]
  obtain ⟨a, n, c, xs⟩ := s
  simp only [SStr.v] at *
  refine Tr.intro 13 Tryz.func232 rfl rfl Tryz.call232 rfl ?_; intro C hC hro
  repeat (first | refine zc ?_ | refine vq ?_)
  refine runL_as 6 (.int .u64 (xs.length : Int)) rfl (by rw [e1]) ?_
  repeat (first | refine yy ?_ | refine yx fun _ => ?_ | refine qc (onum_ok _ _ xs.length (by omega)) ?_ | refine qc (hq _) ?_)
  exact run_ret hC (rs := [.tmp 2, .tmp 3]) rfl (resT rfl (resT rfl resN)) (fun _ h => h) ⟨rfl, rfl, rfl⟩
end Go.Proofs.YtladcmfbkiogbaaGreatDoor
namespace Go.Proofs.YtladcmfbkiogbaaGreatDoor
open Go.Chi
set_option maxRecDepth 10000
abbrev rdB (br : Nat) (s : ByteArray) : Nat × Obj := (br, .cells ⟨[.string s]⟩ 232 (0, 0))
def panW : List PanicEntry := [{ v := .iface 228 (.agg ⟨[]⟩), recovered := false }]
def wmustK (b : Bool) (M : Mem) (L : HL) (en : Ending) (M' : Mem) (L' : HL) : Prop := M = M' ∧ L = L' ∧ if b = true then en = .returned (.tuple ⟨[]⟩) else en = .panicked panW
theorem wmust_ok (M : Mem) (L : HL) (b : Bool) : TrE Tryz.prog 201 [.bool b] M L (wmustK b M L) := by
  refine TrE.intro 6 Tryz.func201 rfl rfl Tryz.call201 rfl ?_; intro C hC hro
  repeat (first | refine yy ?_ | refine yx fun _ => ?_)
  refine run_cond rfl (fun h => ?_) (fun h => ?_)
  · have h0 : b = false := by simpa using h
    subst h0
    repeat (first | refine yy ?_ | refine yx fun _ => ?_ | refine runL_q (qt_makeIface tok rfl rfl) rfl rfl rfl ?_)
    refine runL_panic hro rfl ?_
    exact runX_pan hC (fun _ h => h) ⟨rfl, rfl, rfl⟩
  · have h0 : b = true := by simpa using h
    subst h0
    repeat (first | refine yy ?_ | refine yx fun _ => ?_)
    refine run_endX hro ?_
    exact runX_ret hC (rs := []) rfl (vs := []) trivial (fun _ h => h) ⟨rfl, rfl, rfl⟩
theorem mustR {C : Cx} {n : Nat} {ops : Array Oper} {l : List Oper} {k : List Item} {ds : List Deferred} {σ : Env} {δ : Den} {M : Mem} {L : HL} {b : Bool} {d : Nat} {ty : TypeId} {pos : String} {aft : Array Edge} {args : Array Operand} {tys : Array TypeId}
    (h : b = true → RunL Tryz.prog C n ops l k ds ((d, .tuple ⟨[]⟩) :: σ) δ M L) (hp : b = false → RunX Tryz.prog C n (.panicking panW) ds σ M L) (ha : evs σ δ [] args.toList = some [.bool b] := by exact rfl) (hd : Nat.blt d n = true := by exact rfl) (hn : lkd δ d = none := by exact rfl) (hu : unNamed δ d = true := by exact rfl) :
    RunL Tryz.prog C n ops (⟨some d, .call ⟨.value (.func 201), args, tys⟩, ty, pos, aft, none⟩ :: l) k ds σ δ M L := by
  refine ec (wmust_ok M L b) ?_ ?_ ha hd hn hu
  · rintro v _ _ ⟨rfl, rfl, hv⟩
    cases b with
    | false => cases hv
    | true => cases hv; exact h rfl
  · rintro ch _ _ ⟨rfl, rfl, hv⟩
    cases b with
    | false => cases hv; exact hp rfl
    | true => cases hv
def hadK (e : ByteArray × Int) (M : Mem) (L : HL) (en : Ending) (M' : Mem) (L' : HL) : Prop := M = M' ∧ L = L' ∧ if e.2 = 0 then en = .returned (.string e.1) else en = .panicked panW
theorem had_ok (M : Mem) (L : HL) (e : ByteArray × Int) : TrE Tryz.prog 228 [.string e.1, .int .i64 e.2] M L (hadK e M L) := by
  refine TrE.intro 9 Tryz.func228 rfl rfl Tryz.call228 rfl ?_; intro C hC hro
  repeat (first | refine yy ?_ | refine yx fun _ => ?_)
  refine mustR (b := e.2 == 0) (fun h => ?_) (fun h => ?_)
  · repeat (first | refine yy ?_ | refine yx fun _ => ?_)
    refine run_retX hro ?_
    exact runX_ret hC (rs := [.tmp 4]) rfl (resT rfl resN) (fun _ h => h) ⟨rfl, rfl, by rw [if_pos (by simpa using h)]; rfl⟩
  · exact runX_pan hC (fun _ h => h) ⟨rfl, rfl, by rw [if_neg (by simpa using h)]⟩
def wcutK (br n : Nat) (s : ByteArray) (M : Mem) (L : HL) (en : Ending) (M' : Mem) (L' : HL) : Prop :=
  M = M' ∧ if n ≤ s.size then en = .returned (.string (s.extract 0 n)) ∧ L' = rdB br (s.extract n s.size) :: L else en = .panicked panW ∧ L' = rdB br s :: L
theorem wcut_ok (M : Mem) (L : HL) (br n : Nat) (s : ByteArray) : TrE Tryz.prog 225 [pt br, iv n] M (rdB br s :: L) (wcutK br n s M L) := by
  refine TrE.intro 30 Tryz.func225 rfl rfl Tryz.call225 rfl ?_; intro C hC hro
  repeat (first | refine yy ?_ | refine yx fun _ => ?_)
  refine mustR (b := decide ((n : Int) ≤ (s.size : Int))) (fun h => ?_) (fun h => ?_)
  · have hle : n ≤ s.size := by have := of_decide_eq_true h; omega
    repeat (first | refine yy ?_ | refine yx fun _ => ?_ | refine runL_q (qt_strHi (n := n) tok rfl rfl rfl (fun _ => hle)) rfl rfl rfl ?_ | refine runL_q (qt_strLo (n := n) tok rfl rfl rfl (fun _ => hle)) rfl rfl rfl ?_)
    refine run_retX hro ?_
    exact runX_ret hC (rs := [.tmp 4]) rfl (resT rfl resN) (fun _ h => h) ⟨rfl, by rw [if_pos hle]; exact ⟨rfl, rfl⟩⟩
  · have hle : ¬ n ≤ s.size := by have := of_decide_eq_false h; omega
    exact runX_pan hC (fun _ h => h) ⟨rfl, by rw [if_neg hle]; exact ⟨rfl, rfl⟩⟩
def preB (s p : ByteArray) : Bool := Go.Lib.hasPrefix s.data.toList p.data.toList
theorem pre_size {s p : ByteArray} (h : preB s p = true) : p.size ≤ s.size := by
  have := (List.isPrefixOf_iff_prefix.1 h).length_le
  rw [ba_len, ba_len] at this; exact this
def nextR (s p : ByteArray) : ByteArray := if preB s p = true then s.extract p.size s.size else s
theorem wnext_ok (M : Mem) (L : HL) (br : Nat) (s p : ByteArray) : Tr Tryz.prog 224 [pt br, .string p] M (rdB br s :: L) (fun v M' L' => M = M' ∧ v = .bool (preB s p) ∧ L' = rdB br (nextR s p) :: L) := by
  refine Tr.intro 16 Tryz.func224 rfl rfl Tryz.call224 rfl ?_; intro C hC hro
  repeat (first | refine yy ?_ | refine yx fun _ => ?_ | refine qc (hasPrefix_ok _ _ s p) ?_)
  refine run_cond (t := !preB s p) rfl (fun h => ?_) (fun h => ?_)
  · have h0 : preB s p = false := by simpa using h
    repeat (first | refine yy ?_ | refine yx fun _ => ?_)
    exact run_ret hC (rs := [.tmp 4]) rfl (resT rfl resN) (fun _ h => h) ⟨rfl, by rw [h0]; rfl, by rw [nextR, h0]; rfl⟩
  · have h0 : preB s p = true := by simpa using h
    have hz := pre_size h0
    repeat (first | refine yy ?_ | refine yx fun _ => ?_)
    refine ec (wcut_ok _ _ br p.size s) ?_ ?_
    · rintro v _ _ ⟨rfl, hv⟩
      rw [if_pos hz] at hv
      obtain ⟨hv, rfl⟩ := hv
      repeat (first | refine yy ?_ | refine yx fun _ => ?_)
      exact run_ret hC (rs := [.tmp 4]) rfl (resT rfl resN) (fun _ h => h) ⟨rfl, by rw [h0]; rfl, by rw [nextR, if_pos h0]⟩
    · rintro ch _ _ ⟨rfl, hv⟩
      rw [if_pos hz] at hv
      cases hv.1
end Go.Proofs.YtladcmfbkiogbaaGreatDoor
