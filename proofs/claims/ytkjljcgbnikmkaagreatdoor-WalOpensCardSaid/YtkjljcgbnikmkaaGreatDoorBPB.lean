import Derived.Test.YtkjljcgbnikmkaaGreatDoorBPA
import Derived.Laws.Runes
import Derived.Laws.RangeAny
import Derived.Laws.BytesString
import Derived.Laws.MakeOwn
import Derived.Laws.OwnMore
import Derived.DeepKeys
import Derived.Laws.StructEq
namespace Go.Chi
section
variable {P : Program} {T : TT} {ro : Option Nat} {σ : Env} {δ : Den} {cur : Path} {M : Mem} {L : HL} {d : Option Nat} {ty : TypeId} {pos : String} {aft : Array Edge} {g : Option (Nat × Bool)} {v : Value}
theorem qt_makeIface (hT : TOk P T) {t : TypeId} {x : Operand} {fs : Array Field} (hu : und T t = some (.struct fs)) (hx : ev σ δ cur x = some v) :
    Qt P ro ⟨d, .makeInterface t x, ty, pos, aft, g⟩ σ δ cur M L (.iface t v) :=
  qt_of_run (semAt_of (by intro c e; cases e)) fun a w hs hcur hp => by
    simp [execOp, Instr.makeInterface, ev_sound hs hcur hx, run_und hT hu]
theorem qt_assertIs (hT : TOk P T) {s t : TypeId} {x : Operand} {fs : Array Field} (hu : und T t = some (.struct fs)) (hx : ev σ δ cur x = some (.iface t v)) :
    Qt P ro ⟨d, .typeAssert x s t true, ty, pos, aft, g⟩ σ δ cur M L (.tuple ⟨[v, .bool true]⟩) :=
  qt_of_run (semAt_of (by intro c e; cases e)) fun a w hs hcur hp => by
    simp [execOp, Instr.typeAssert, ev_sound hs hcur hx, run_und hT hu]
theorem run_underlying {s : TypeId} {u : TypeDesc} (hu : P.underlying s = some u) (w : World) : (underlying s).run P w = .ok u w := by
  simp [underlying, hu]
theorem eq_nil {s t : TypeId} {ms : Array (String × TypeId)} (hu : P.underlying s = some (.interface ms)) (w : World) : (Op.equal s (.iface t v) .nilIface).run P w = .ok false w := by
  obtain ⟨k, hk⟩ : ∃ k, Op.maxDepth = k + 1 := ⟨_, rfl⟩
  rw [Op.equal, hk]
  simp only [Op.equalIn, Sem.run_bind, run_underlying hu, Result.andThen_ok, Sem.run_pure]
theorem eq_nil0 {s : TypeId} {ms : Array (String × TypeId)} (hu : P.underlying s = some (.interface ms)) (w : World) : (Op.equal s .nilIface .nilIface).run P w = .ok true w := by
  obtain ⟨k, hk⟩ : ∃ k, Op.maxDepth = k + 1 := ⟨_, rfl⟩
  rw [Op.equal, hk]
  simp only [Op.equalIn, Sem.run_bind, run_underlying hu, Result.andThen_ok, Sem.run_pure]
theorem qt_neNil {s t u : TypeId} {x : Operand} {ms : Array (String × TypeId)} (hu : P.underlying s = some (.interface ms)) (hx : ev σ δ cur x = some (.iface t v)) :
    Qt P ro ⟨d, .binOp .neq s x (.const .nilIface) u, ty, pos, aft, g⟩ σ δ cur M L (.bool true) :=
  qt_of_run (semAt_of (by intro c e; cases e)) fun a w hs hcur hp => by
    have hy : a.eval (.const .nilIface) = .nilIface := rfl
    simp [execOp, eqGuard, binOp, ev_sound hs hcur hx, hy, eq_nil hu]
theorem qt_neNil0 {s u : TypeId} {x : Operand} {ms : Array (String × TypeId)} (hu : P.underlying s = some (.interface ms)) (hx : ev σ δ cur x = some .nilIface) :
    Qt P ro ⟨d, .binOp .neq s x (.const .nilIface) u, ty, pos, aft, g⟩ σ δ cur M L (.bool false) :=
  qt_of_run (semAt_of (by intro c e; cases e)) fun a w hs hcur hp => by
    have hy : a.eval (.const .nilIface) = .nilIface := rfl
    simp [execOp, eqGuard, binOp, ev_sound hs hcur hx, hy, eq_nil0 hu]
end
end Go.Chi
namespace Go.Chi
section
variable {P : Program} {T : TT} {ro : Option Nat} {σ : Env} {δ : Den} {cur : Path} {M : Mem} {L : HL} {d : Option Nat} {ty : TypeId} {pos : String} {aft : Array Edge} {g : Option (Nat × Bool)}
theorem qt_strIndex (hT : TOk P T) {t : TypeId} {x y : Operand} {s : ByteArray} {k : IntKind} {n : Nat} {b : UInt8} (hu : und T t = some .string) (hx : ev σ δ cur x = some (.string s)) (hy : ev σ δ cur y = some (.int k (n : Int))) (hb : Hy σ δ cur → s[n]? = some b) :
    Qt P ro ⟨d, .index t x y, ty, pos, aft, g⟩ σ δ cur M L (.int .u8 (b.toNat : Int)) :=
  qt_of_run (semAt_of (by intro c e; cases e)) fun a w hs hcur hp => by
    have h := hb (Hy_of hs hcur)
    simp [execOp, Instr.index, ev_sound hs hcur hx, ev_sound hs hcur hy, asIntOf, run_und hT hu, h]
theorem qt_strLo (hT : TOk P T) {t : TypeId} {x y : Operand} {s : ByteArray} {k : IntKind} {n : Nat} (hu : und T t = some .string) (hx : ev σ δ cur x = some (.string s)) (hy : ev σ δ cur y = some (.int k (n : Int))) (hb : Hy σ δ cur → n ≤ s.size) :
    Qt P ro ⟨d, .slice t x (some y) none none, ty, pos, aft, g⟩ σ δ cur M L (.string (s.extract n s.size)) :=
  qt_of_run (semAt_of (by intro c e; cases e)) fun a w hs hcur hp => by
    have h := hb (Hy_of hs hcur)
    simp [execOp, Instr.sliceAt, Instr.slice, Instr.sliceBounds, Instr.sliceBound, ev_sound hs hcur hx, ev_sound hs hcur hy, asIntOf, run_und hT hu, h]
theorem qt_strHi (hT : TOk P T) {t : TypeId} {x y : Operand} {s : ByteArray} {k : IntKind} {n : Nat} (hu : und T t = some .string) (hx : ev σ δ cur x = some (.string s)) (hy : ev σ δ cur y = some (.int k (n : Int))) (hb : Hy σ δ cur → n ≤ s.size) :
    Qt P ro ⟨d, .slice t x none (some y) none, ty, pos, aft, g⟩ σ δ cur M L (.string (s.extract 0 n)) :=
  qt_of_run (semAt_of (by intro c e; cases e)) fun a w hs hcur hp => by
    have h := hb (Hy_of hs hcur)
    simp [execOp, Instr.sliceAt, Instr.slice, Instr.sliceBounds, Instr.sliceBound, ev_sound hs hcur hx, ev_sound hs hcur hy, asIntOf, run_und hT hu, h]
theorem qt_strMid (hT : TOk P T) {t : TypeId} {x y z : Operand} {s : ByteArray} {k k' : IntKind} {m n : Nat} (hu : und T t = some .string) (hx : ev σ δ cur x = some (.string s)) (hy : ev σ δ cur y = some (.int k (m : Int))) (hz : ev σ δ cur z = some (.int k' (n : Int))) (hb : Hy σ δ cur → m ≤ n ∧ n ≤ s.size) :
    Qt P ro ⟨d, .slice t x (some y) (some z) none, ty, pos, aft, g⟩ σ δ cur M L (.string (s.extract m n)) :=
  qt_of_run (semAt_of (by intro c e; cases e)) fun a w hs hcur hp => by
    have h := hb (Hy_of hs hcur)
    simp [execOp, Instr.sliceAt, Instr.slice, Instr.sliceBounds, Instr.sliceBound, ev_sound hs hcur hx, ev_sound hs hcur hy, ev_sound hs hcur hz, asIntOf, run_und hT hu, h]
end
end Go.Chi
namespace Go.Proofs.YtkjljcgbnikmkaaGreatDoor
open Go.Chi
set_option maxRecDepth 10000
def wrongV (e : Int) : Value := .iface 177 (.agg ⟨[.int .i64 e]⟩)
def pan (e : Int) : List PanicEntry := [{ v := wrongV e, recovered := false }]
def mustK (e : Int) (M : Mem) (L : HL) (en : Ending) (M' : Mem) (L' : HL) : Prop := M = M' ∧ L = L' ∧ if e = 0 then en = .returned (.tuple ⟨[]⟩) else en = .panicked (pan e)
theorem must_ok (M : Mem) (L : HL) (e : Int) : TrE Tryz.prog 139 [.int .i64 e] M L (mustK e M L) := by
  refine TrE.intro 7 Tryz.func139 rfl rfl Tryz.call139 rfl ?_
  intro C hC hro
  repeat (first | refine zz ?_ | refine zx fun _ => ?_)
  refine run_cond rfl (fun h => ?_) (fun h => ?_)
  · have h0 : e ≠ 0 := by simpa using h
    repeat (first | refine zz ?_ | refine zx fun _ => ?_ | refine runL_q (qt_makeIface tok rfl rfl) rfl rfl rfl ?_)
    refine runL_panic hro rfl ?_
    exact runX_pan hC (fun _ h => h) ⟨rfl, rfl, by rw [if_neg h0]; rfl⟩
  · have h0 : e = 0 := by simpa using h
    repeat (first | refine zz ?_ | refine zx fun _ => ?_)
    refine run_endX hro ?_
    exact runX_ret hC (rs := []) rfl (vs := []) trivial (fun _ h => h) ⟨rfl, rfl, by rw [if_pos h0]; rfl⟩
theorem caught_ok (M : Mem) (L : HL) (e : Int) : TrQ Tryz.prog 136 [wrongV e] M L (.int .i64 e) := by
  refine Tr.intro 15 Tryz.func136 rfl rfl Tryz.call136 rfl ?_
  intro C hC hro
  repeat (first | refine zz ?_ | refine zx fun _ => ?_ | refine runL_q (qt_assertIs tok rfl rfl) rfl rfl rfl ?_)
  refine run_cond rfl (fun h => ?_) (fun h => ?_)
  · simp at h
  · repeat (first | refine zz ?_ | refine zx fun _ => ?_)
    exact run_ret hC (rs := [.tmp 2]) rfl (resT rfl resN) (fun _ h => h.drop) ⟨rfl, rfl, rfl⟩
theorem tell_ok (M : Mem) (L : HL) (a b c : Int) : TrQ Tryz.prog 138 [.int .i64 a, .int .i64 b, .int .i64 c] M L (.tuple ⟨[]⟩) := by
  refine Tr.intro 6 Tryz.func138 rfl rfl Tryz.call138 rfl ?_
  intro C hC hro
  repeat (first | refine zz ?_ | refine zx fun _ => ?_)
  exact run_end hC (rs := []) rfl (vs := []) trivial (fun _ h => h) ⟨rfl, rfl, rfl⟩
end Go.Proofs.YtkjljcgbnikmkaaGreatDoor
namespace Go.Proofs.YtkjljcgbnikmkaaGreatDoor
open Go.Chi
set_option maxRecDepth 10000
theorem _root_.Go.Chi.runX_sub {P : Program} {C : Cx} {n : Nat} {u : FrameMode} {ds : List Deferred} {σ σ' : Env} {M : Mem} {L : HL} (h : RunX P C n u ds σ' M L) (hs : subE σ σ') : RunX P C n u ds σ M L :=
  fun a w k h1 h2 h3 h4 => h a w k h1 h2 ⟨fun t v e => h3.1 t v (subE_sound hs t v e), h3.2⟩ h4
theorem uAny : Tryz.prog.underlying 20 = some (.interface #[]) := by kernel_rfl
def fv (f : Nat) : Value := .func (.func f) ⟨[]⟩ ⟨[]⟩
def walkK (r : Except Int Nat) (M : Mem) (L : HL) (en : Ending) (M' : Mem) (L' : HL) : Prop := M = M' ∧ L = L' ∧ match r with | .ok n => en = .returned (.int .i64 (n : Int)) | .error e => en = .panicked (pan e)
def readR (r : Except Int Nat) : Int × Int := match r with | .ok n => if 16384 < n then (0, 5) else ((n : Int), 0) | .error e => (0, e)
set_option maxRecDepth 10000 in
set_option maxHeartbeats 4000000 in
theorem read_ok (M : Mem) (L : HL) (s : ByteArray) (r : Except Int Nat) (hw : ∀ L, TrE Tryz.prog 137 [.string s, .int .i64 0, .int .i64 1, fv 138] M L (walkK r M L)) : TrQ Tryz.prog 129 [.string s] M L (.tuple ⟨[.int .i64 (readR r).1, .int .i64 (readR r).2]⟩) := by
  refine TrE.tr (K := fun en M' L' => en = .returned (.tuple ⟨[.int .i64 (readR r).1, .int .i64 (readR r).2]⟩) ∧ M' = M ∧ L' = L) ?_ (fun e M' L' ⟨h1, h2, h3⟩ => ⟨_, h1, rfl, h2, h3⟩)
  refine TrE.intro 11 Tryz.func129 rfl rfl Tryz.call129 rfl ?_
  intro C hC hro
  repeat (first | refine zz ?_ | refine zx fun _ => ?_)
  rename_i b2 b3
  have hthrow : ∀ (e x : Int) (y : Int), readR r = (0, e) → RunX Tryz.prog C 11 (.panicking (pan e)) [⟨.fn (.func 135) ⟨[.pointer (some ⟨b2, 0, none⟩), .pointer (some ⟨b3, 0, none⟩)]⟩, #[]⟩] [(2, .pointer (some ⟨b2, 0, none⟩)), (3, .pointer (some ⟨b3, 0, none⟩))] M ((b3, .cells ⟨[.int .i64 y]⟩ 38 (0, 0)) :: (b2, .cells ⟨[.int .i64 x]⟩ 3 (0, 0)) :: L) := by
    intro e x y hr
    refine runX_defer (args := [.pointer (some ⟨b2, 0, none⟩), .pointer (some ⟨b3, 0, none⟩)]) 8 (by simp) Tryz.func135 rfl rfl Tryz.call135 rfl rfl ?_
    intro a0 k0 q1 q2 q3
    refine run_seq ?_
    refine run_region ?_
    refine runL_recover rfl rfl rfl ?_
    repeat (first | refine zz ?_ | refine zx fun _ => ?_)
    refine runL_q (qt_neNil (v := .agg ⟨[.int .i64 e]⟩) uAny rfl) rfl rfl rfl ?_
    repeat (first | refine zz ?_ | refine zx fun _ => ?_)
    refine run_cond rfl (fun _ => ?_) (fun h => ?_)
    rotate_left
    · cases h
    repeat (first | refine zz ?_ | refine zx fun _ => ?_ | refine runL_q (qt_callF rfl (fun _ => caught_ok _ _ e)) rfl rfl rfl ?_)
    refine run_endX rfl ?_
    refine runX_dret Tryz.func135 rfl q1 q2 q3 ?_
    show RunX _ _ _ .returning _ _ _ _
    refine runX_ret hC (rs := [.cell 2 3, .cell 3 38]) rfl (rl tok rfl (rl tok rfl resN)) (fun _ h => h.drop.drop) ⟨?_, rfl, rfl⟩
    rw [hr]; rfl
  refine runL_defer hro rfl rfl ?_
  repeat (first | refine zz ?_ | refine zx fun _ => ?_)
  refine runL_callE rfl (hw _) rfl rfl rfl ?_ ?_
  · rintro v _ _ ⟨rfl, rfl, hv⟩
    cases r with
    | error e => simp at hv
    | ok m =>
      simp only [Ending.returned.injEq] at hv
      subst hv
      repeat (first | refine zz ?_ | refine zx fun _ => ?_)
      refine run_cond rfl (fun h => ?_) (fun h => ?_)
      · have hm : 16384 < m := by simp at h; omega
        repeat (first | refine zz ?_ | refine zx fun _ => ?_)
        refine runL_callE rfl (must_ok _ _ 5) rfl rfl rfl ?_ ?_
        · rintro v _ _ ⟨_, _, hv⟩
          simp at hv
        · rintro ch _ _ ⟨rfl, rfl, hv⟩
          simp only [show ¬ (5 : Int) = 0 by decide, if_false, Ending.panicked.injEq] at hv
          subst hv
          exact runX_sub (hthrow 5 (m : Int) 0 (by simp only [readR, if_pos hm])) ⟨rfl, rfl, trivial⟩
      · have hm : ¬ 16384 < m := by simp at h; omega
        repeat (first | refine zz ?_ | refine zx fun _ => ?_)
        refine run_retX hro ?_
        refine runX_sub (σ' := [(2, .pointer (some ⟨b2, 0, none⟩)), (3, .pointer (some ⟨b3, 0, none⟩))]) ?_ ⟨rfl, rfl, trivial⟩
        refine runX_defer (args := [.pointer (some ⟨b2, 0, none⟩), .pointer (some ⟨b3, 0, none⟩)]) 8 (by simp) Tryz.func135 rfl rfl Tryz.call135 rfl rfl ?_
        intro a0 k0 q1 q2 q3
        refine run_seq ?_
        refine run_region ?_
        refine runL_recover0 rfl rfl rfl ?_
        repeat (first | refine zz ?_ | refine zx fun _ => ?_ | refine runL_q (qt_neNil0 uAny rfl) rfl rfl rfl ?_)
        refine run_cond rfl (fun h => ?_) (fun _ => ?_)
        · cases h
        repeat (first | refine zz ?_ | refine zx fun _ => ?_)
        refine run_endX rfl ?_
        refine runX_dret Tryz.func135 rfl q1 q2 q3 ?_
        show RunX _ _ _ .returning _ _ _ _
        refine runX_ret hC (rs := [.cell 2 3, .cell 3 38]) rfl (rl tok rfl (rl tok rfl resN)) (fun _ h => h.drop.drop) ⟨?_, rfl, rfl⟩
        simp only [readR, if_neg hm]
        rfl
  · rintro ch _ _ ⟨rfl, rfl, hv⟩
    cases r with
    | ok m => simp at hv
    | error e =>
      simp only [Ending.panicked.injEq] at hv
      subst hv
      exact runX_sub (hthrow e 0 0 rfl) ⟨rfl, rfl, trivial⟩
end Go.Proofs.YtkjljcgbnikmkaaGreatDoor
namespace Go.Proofs.YtkjljcgbnikmkaaGreatDoor
open Go.Chi
set_option maxRecDepth 10000
def byte (s : ByteArray) (i : Nat) : Int := (((s[i]?).getD 0).toNat : Int)
def numV (s : ByteArray) : Nat → Int
  | 0 => 0
  | i + 1 => ior .u64 (ishl .u64 (numV s i) 8) (IntKind.u64.wrap (byte s i))
theorem byte_at {s : ByteArray} {i : Nat} (h : i < s.size) : ∃ b : UInt8, s[i]? = some b ∧ byte s i = (b.toNat : Int) := by
  have hx : s[i]? = some s[i] := by simp [h]
  exact ⟨_, hx, by rw [byte, hx]; rfl⟩
theorem empty_beq (s : ByteArray) : (s.toList == (⟨#[]⟩ : ByteArray).toList) = decide (s.size = 0) := by
  rw [bytes_beq, Bool.eq_iff_iff, decide_eq_true_eq, decide_eq_true_eq]
  constructor
  · rintro rfl; rfl
  · intro h0
    cases s with | mk d => simp [ByteArray.size] at h0; subst h0; rfl
theorem u64_byte (b : UInt8) : IntKind.u64.wrap (b.toNat : Int) = (b.toNat : Int) := by
  have := b.toNat_lt
  simp only [IntKind.wrap, IntKind.signed, IntKind.bits]
  simp
  omega
def rest1 (s : ByteArray) : ByteArray := s.extract 1 s.size
def numR (s : ByteArray) : Int × Int × Int :=
  if s.size = 0 then (0, 0, 6) else
  if byte s 0 ≤ 247 then (byte s 0, 1, 0) else
  if ((rest1 s).size : Int) < byte s 0 - 247 then (0, 0, 6) else
  if byte (rest1 s) 0 = 0 ∨ numV (rest1 s) (byte s 0 - 247).toNat ≤ 247 then (0, 0, 7) else (numV (rest1 s) (byte s 0 - 247).toNat, byte s 0 - 247 + 1, 0)
set_option maxHeartbeats 4000000 in
theorem readNum_ok (M : Mem) (L : HL) (s : ByteArray) : TrQ Tryz.prog 122 [.string s] M L (.tuple ⟨[.int .u64 (numR s).1, .int .i64 (numR s).2.1, .int .i64 (numR s).2.2]⟩) := by
  refine Tr.intro 46 Tryz.func122 rfl rfl Tryz.call122 rfl ?_
  intro C hC hro
  repeat (first | refine zz ?_ | refine zx fun _ => ?_)
  refine run_cond rfl (fun h => ?_) (fun h => ?_)
  · repeat (first | refine zz ?_ | refine zx fun _ => ?_)
    exact run_ret hC (rs := [.tmp 2, .tmp 3, .tmp 4]) rfl (resT rfl (resT rfl (resT rfl resN))) (fun _ h => h) ⟨by rw [empty_beq, decide_eq_true_eq] at h; rw [numR, if_pos h]; rfl, rfl, rfl⟩
  rw [empty_beq, decide_eq_false_iff_not] at h
  have hs : 0 < s.size := by omega
  obtain ⟨b0, hb0, hb0'⟩ := byte_at hs
  repeat (first | refine zz ?_ | refine zx fun _ => ?_ | refine runL_q (qt_strIndex (n := 0) tok rfl rfl rfl (fun _ => hb0)) rfl rfl rfl ?_)
  refine run_cond rfl (fun h1 => ?_) (fun h1 => ?_)
  · have h2 : byte s 0 ≤ 247 := by rw [hb0']; simpa using h1
    repeat (first | refine zz ?_ | refine zx fun _ => ?_ | refine runL_q (qt_strIndex (n := 0) tok rfl rfl rfl (fun _ => hb0)) rfl rfl rfl ?_)
    refine run_ret hC (rs := [.tmp 2, .tmp 3, .tmp 4]) rfl (resT rfl (resT rfl (resT rfl resN))) (fun _ h => h) ⟨?_, rfl, rfl⟩
    rw [numR, if_neg h, if_pos h2, hb0', u64_byte]
    rfl
  have h2 : ¬ byte s 0 ≤ 247 := by rw [hb0']; simpa using h1
  obtain ⟨k, hk⟩ : ∃ k : Nat, k = b0.toNat - 247 := ⟨_, rfl⟩
  have hb0n : 247 < b0.toNat := by rw [hb0'] at h2; omega
  have hlt := b0.toNat_lt
  have hkv : IntKind.i64.wrap (IntKind.i64.wrap (b0.toNat : Int) - 247) = (k : Int) := by
    rw [wrap64_nat (by omega), show (b0.toNat : Int) - 247 = (k : Int) by omega, wrap64_nat (by omega)]
  repeat (first | refine zz ?_ | refine zx fun _ => ?_ | refine runL_q (qt_strIndex (n := 0) tok rfl rfl rfl (fun _ => hb0)) rfl rfl rfl ?_ | refine runL_q (qt_strLo (n := 1) tok rfl rfl rfl (fun _ => hs)) rfl rfl rfl ?_)
  have hkb : byte s 0 - 247 = (k : Int) := by rw [hb0']; omega
  refine run_cond rfl (fun h3 => ?_) (fun h3 => ?_)
  · rw [hkv] at h3
    repeat (first | refine zz ?_ | refine zx fun _ => ?_)
    refine run_ret hC (rs := [.tmp 2, .tmp 3, .tmp 4]) rfl (resT rfl (resT rfl (resT rfl resN))) (fun _ h => h) ⟨?_, rfl, rfl⟩
    have h4 : ((rest1 s).size : Int) < (k : Int) := of_decide_eq_true h3
    rw [numR, if_neg h, if_neg h2, hkb, if_pos h4]
    rfl
  rw [hkv] at h3
  have h4 : ¬ ((rest1 s).size : Int) < (k : Int) := of_decide_eq_false h3
  have h4' : k ≤ (rest1 s).size := by omega
  refine run_as 3 (.int .i64 (k : Int)) rfl (by rw [hkv]) ?_
  refine run_as 0 (.string (rest1 s)) rfl rfl ?_
  repeat (first | refine zz ?_ | refine zx fun _ => ?_)
  refine run_loopN (fun i σ1 M1 L1 => i ≤ k ∧ σ1 = [(25, .int .i64 (i : Int)), (24, .int .i64 (k : Int)), (2, .int .u64 (numV (rest1 s) i)), (3, .int .i64 (k : Int)), (0, .string (rest1 s))] ∧ M = M1 ∧ L = L1) k [(25, .int .i64 ((0 : Nat) : Int)), (24, .int .i64 (k : Int)), (2, .int .u64 0), (3, .int .i64 (k : Int)), (0, .string (rest1 s))] ?_ ⟨Nat.zero_le _, rfl, rfl, rfl⟩ (fun j _ _ _ h => h.1) ?_
  · exact ⟨rfl, rfl, rfl, rfl, rfl, trivial⟩
  rintro i _ _ _ ⟨hi, rfl, rfl, rfl⟩ hnext
  repeat (first | refine zz ?_ | refine zx fun _ => ?_)
  refine run_cond rfl (fun h5 => ?_) (fun h5 => ?_)
  · have hik : i < k := by simpa using h5
    obtain ⟨b, hb, hb'⟩ := byte_at (s := rest1 s) (i := i) (by omega)
    repeat (first | refine zz ?_ | refine zx fun _ => ?_ | refine runL_q (qt_shl rfl rfl (fun _ => by decide)) rfl rfl rfl ?_ | refine runL_q (qt_strIndex tok rfl rfl rfl (fun _ => hb)) rfl rfl rfl ?_)
    exact run_sub' (hnext _ _ _ ⟨hik, rfl, rfl, rfl⟩) ⟨lk_succ rfl (by omega), rfl, by rw [numV, hb']; rfl, rfl, rfl, trivial⟩
  · have hik : i = k := by simp at h5; omega
    subst hik
    obtain ⟨b, hb, hb'⟩ := byte_at (s := rest1 s) (i := 0) (by omega)
    have hz : (byte s 0 - 247).toNat = i := by omega
    repeat (first | refine zz ?_ | refine zx fun _ => ?_ | refine runL_q (qt_strIndex (n := 0) tok rfl rfl rfl (fun _ => hb)) rfl rfl rfl ?_)
    refine run_cond rfl (fun h6 => ?_) (fun h6 => ?_)
    · repeat (first | refine zz ?_ | refine zx fun _ => ?_)
      refine run_ret hC (rs := [.tmp 2, .tmp 3, .tmp 4]) rfl (resT rfl (resT rfl (resT rfl resN))) (fun _ h => h) ⟨?_, rfl, rfl⟩
      have h7 : byte (rest1 s) 0 = 0 ∨ numV (rest1 s) i ≤ 247 := by rw [hb']; simpa using h6
      rw [numR, if_neg h, if_neg h2, hz, if_neg (by rw [hkb]; exact h4), if_pos h7]
      rfl
    · repeat (first | refine zz ?_ | refine zx fun _ => ?_)
      refine run_ret hC (rs := [.tmp 2, .tmp 3, .tmp 4]) rfl (resT rfl (resT rfl (resT rfl resN))) (fun _ h => h) ⟨?_, rfl, rfl⟩
      have h7 : ¬ (byte (rest1 s) 0 = 0 ∨ numV (rest1 s) i ≤ 247) := by rw [hb']; simpa using h6
      rw [numR, if_neg h, if_neg h2, hz, if_neg (by rw [hkb]; exact h4), if_neg h7, hkb, wrap64_succ (by omega)]
      rfl
end Go.Proofs.YtkjljcgbnikmkaaGreatDoor
namespace Go.Chi
section
variable {P : Program} {C : Cx} {n : Nat} {k : List Item} {ds : List Deferred} {T : TT} {ro : Option Nat} {σ : Env} {δ : Den} {cur : Path} {M : Mem} {L : HL} {d : Option Nat} {ty : TypeId} {pos : String} {aft : Array Edge} {g : Option (Nat × Bool)} {v : Value}
theorem run_scope {c : Code} (h : Run P C n (.code c :: .inScope c :: k) ds σ M L) : Run P C n (.code (.scope c) :: k) ds σ M L :=
  fun a w h1 h2 h3 h4 => J.step (step_lone_go (by simp [stepG, stepG.exec, Frame.atR])) (h a w h1 h2 h3 h4)
theorem qt_callX {f : FuncId} {fn : Func} {e : Array Value → Sem Value} {args : Array Operand} {tys : Array TypeId} {vs : List Value} (hf : P.funcs[f]? = some fn) (hname : (fn.name == "runtime.NumGoroutine") = false)
    (hb : fn.body.isNone = true) (hn : Extern.findNext fn = none) (he : Extern.find fn = some e) (ha : evs σ δ cur args.toList = some vs) (h : ∀ w, (e ⟨vs⟩).run P w = .ok v w) :
    Qt P ro ⟨d, .call ⟨.value (.func f), args, tys⟩, ty, pos, aft, g⟩ σ δ cur M L v := fun a w hs hcur hp => by
  refine opWp_value (w' := w) (v := v) ?_ ⟨M, L, hp, rfl, rfl, rfl⟩
  rw [semAt_of (by intro c e; cases e)]
  have e1 : args.map a.eval = ⟨vs⟩ := by apply Array.ext'; simpa using evs_sound hs hcur ha
  simp only [execOp, resolve, e1, Act.eval, Deferred.ofValue, Sem.run_bind, Sem.run_pure, Result.andThen_ok, invoke]
  have hx := run_callFunc_extern (P := P) hf hname hb hn he ⟨vs⟩ w
  rw [h w] at hx
  simpa using hx
theorem st_rangeS (hT : TOk P T) {t : TypeId} {x : Operand} {s : ByteArray} (hu : und T t = some .string) (hx : ev σ δ cur x = some (.string s)) :
    St P ro ⟨d, .range t x, ty, pos, aft, g⟩ σ δ cur M L (fun v' M' L' => ∃ b, v' = .pointer (some ⟨b, 0, none⟩) ∧ M = M' ∧ L' = (b, .stringIter s 0) :: L) := fun a w hs hcur hp => by
  refine opWp_value (v := .pointer (some ⟨w.heap.size, 0, none⟩)) (w' := { w with heap := w.heap.push (.stringIter s 0) }) ?_ ⟨M, _, hp.push _, _, rfl, rfl, rfl⟩
  rw [semAt_of (by intro c e; cases e)]
  simp [execOp, Instr.range, ev_sound hs hcur hx, run_und hT hu]
theorem st_nextS {x : Operand} {s : ByteArray} {b p : Nat} {L' : HL} (hx : ev σ δ cur x = some (.pointer (some ⟨b, 0, none⟩))) (hu : Upd L b (.stringIter s p) (.stringIter s (p + (Utf8.decode s p).2)) L') (hp' : p < s.size) :
    St P ro ⟨d, .next x true, ty, pos, aft, g⟩ σ δ cur M L (fun v' M' L1 => v' = .tuple ⟨[.bool true, .int .i64 (p : Int), .int .i32 (Utf8.decode s p).1]⟩ ∧ M = M' ∧ L1 = L') := fun a w hs hcur hp => by
  have hb := hp.own _ hu.mem
  have hlt := (Array.getElem?_eq_some_iff.1 hb).1
  refine opWp_value (v := .tuple ⟨[.bool true, .int .i64 (p : Int), .int .i32 (Utf8.decode s p).1]⟩) (w' := { w with heap := w.heap.setIfInBounds b (.stringIter s (p + (Utf8.decode s p).2)) }) ?_ ⟨M, L', hp.upd hu rfl rfl rfl ?_ ?_, rfl, rfl, rfl⟩
  · rw [semAt_of (by intro c e; cases e)]
    simp only [execOp, ev_sound hs hcur hx, Instr.next, getObj, setObj, Sem.run_bind, Sem.run, hb, Result.andThen, hp', if_true]
    simp [goInt]
  · simp [hlt]
  · intro j hj
    show (w.heap.setIfInBounds b _)[j]? = _
    rw [Array.getElem?_setIfInBounds, if_neg (fun e => hj e.symm)]
theorem qt_nextEnd {x : Operand} {s : ByteArray} {b p : Nat} (hx : ev σ δ cur x = some (.pointer (some ⟨b, 0, none⟩))) (hm : (b, Obj.stringIter s p) ∈ L) (hp' : ¬ p < s.size) :
    Qt P ro ⟨d, .next x true, ty, pos, aft, g⟩ σ δ cur M L (.tuple ⟨[.bool false]⟩) :=
  qt_of_run (semAt_of (by intro c e; cases e)) fun a w hs hcur hp => by
    have hb := hp.own _ hm
    simp only [execOp, ev_sound hs hcur hx, Instr.next, getObj, setObj, Sem.run_bind, Sem.run, hb, Result.andThen, hp', if_false]
    rfl
theorem qt_runeStr (hT : TOk P T) {s t : TypeId} {x : Operand} {m : Int} {k : IntKind} (hs' : und T s = some (.int k)) (hu : und T t = some .string) (hx : ev σ δ cur x = some (.int k m)) :
    Qt P ro ⟨d, .convert s t x, ty, pos, aft, g⟩ σ δ cur M L (.string (Utf8.encode m)) :=
  qt_of_run (semAt_of (by intro c e; cases e)) fun a w hs hcur hp => by
    simp [execOp, convert, Conv.intToString, ev_sound hs hcur hx, run_und hT hs', run_und hT hu]
theorem qt_max2 {x y : Operand} {tys : Array TypeId} {k k' : IntKind} {m n : Int} (hx : ev σ δ cur x = some (.int k m)) (hy : ev σ δ cur y = some (.int k' n)) :
    Qt P ro ⟨d, .call ⟨.builtin .max, #[x, y], tys⟩, ty, pos, aft, g⟩ σ δ cur M L (.int k (if n > m then n else m)) :=
  qt_of_run (semAt_of (by intro c e; cases e)) fun a w hs hcur hp => by
    simp [execOp, resolve, invoke, builtin, Builtin.max_, Builtin.max2, ev_sound hs hcur hx, ev_sound hs hcur hy]
end
end Go.Chi
namespace Go.Proofs.YtkjljcgbnikmkaaGreatDoor
open Go.Chi
set_option maxRecDepth 10000
def abc : ByteArray := ⟨#[97, 98, 99, 100, 101, 102, 103, 104, 105, 106, 107, 108, 109, 110, 111, 112, 113, 114, 115, 116, 117, 118, 119, 120, 121, 122, 48, 49, 50, 51, 52, 53, 54, 55, 56, 57, 47, 46, 45]⟩
theorem sliteIB_ok (M : Mem) (L : HL) (s : ByteArray) (c : Int) : TrQ Tryz.prog 152 [.string s, .int .u8 c] M L (.int .i64 (firstIdx s c.toNat.toUInt8)) := by
  refine Tr.intro 8 Tryz.func152 rfl rfl Tryz.call152 rfl ?_
  intro C hC hro
  repeat (first | refine zz ?_ | refine zx fun _ => ?_ | refine runL_q (qt_callX Tryz.func153 (by kernel_rfl) (by kernel_rfl) (by kernel_rfl) (e := Extern.BytealgIndexByte.indexByte) (by kernel_rfl) rfl (fun w => run_indexByte_string s c w)) rfl rfl rfl ?_)
  exact run_ret hC (rs := [.tmp 4]) rfl (resT rfl resN) (fun _ h => h) ⟨rfl, rfl, rfl⟩
theorem indexByte_ok (M : Mem) (L : HL) (s : ByteArray) (c : Int) : TrQ Tryz.prog 148 [.string s, .int .u8 c] M L (.int .i64 (firstIdx s c.toNat.toUInt8)) := by
  refine Tr.intro 8 Tryz.func148 rfl rfl Tryz.call148 rfl ?_
  intro C hC hro
  repeat (first | refine zz ?_ | refine zx fun _ => ?_ | refine runL_q (qt_callF rfl (fun _ => sliteIB_ok _ _ s c)) rfl rfl rfl ?_)
  exact run_ret hC (rs := [.tmp 4]) rfl (resT rfl resN) (fun _ h => h) ⟨rfl, rfl, rfl⟩
theorem validRune_ok (M : Mem) (L : HL) (r : Int) : TrQ Tryz.prog 149 [.int .i32 r] M L (.bool (validRune r)) := by
  refine Tr.intro 17 Tryz.func149 rfl rfl Tryz.call149 rfl ?_
  intro C hC hro
  repeat (first | refine zz ?_ | refine zx fun _ => ?_)
  refine run_cond rfl (fun h => ?_) (fun h => ?_)
  · repeat (first | refine zz ?_ | refine zx fun _ => ?_)
    refine run_ret hC (rs := [.tmp 2]) rfl (resT rfl resN) (fun _ h => h) ⟨?_, rfl, rfl⟩
    rw [show validRune r = true from decide_eq_true (.inl (by simpa using h))]
    rfl
  · repeat (first | refine zz ?_ | refine zx fun _ => ?_)
    refine run_cond rfl (fun h' => ?_) (fun h' => ?_)
    · repeat (first | refine zz ?_ | refine zx fun _ => ?_)
      refine run_ret hC (rs := [.tmp 2]) rfl (resT rfl resN) (fun _ h => h) ⟨?_, rfl, rfl⟩
      rw [show validRune r = true from decide_eq_true (.inr (by simpa using h'))]
      rfl
    · repeat (first | refine zz ?_ | refine zx fun _ => ?_)
      refine run_ret hC (rs := [.tmp 2]) rfl (resT rfl resN) (fun _ h => h) ⟨?_, rfl, rfl⟩
      rw [show validRune r = false from decide_eq_false (by
        rintro (h1 | h1)
        · simp [h1.1, h1.2] at h
        · simp [h1.1, h1.2] at h')]
      rfl
def runeIx (r : Int) : Int := if 0 ≤ r ∧ r < 128 then firstIdx abc (IntKind.u8.wrap r).toNat.toUInt8 else -1
theorem abc_lt : ∀ b ∈ abc.data.toList, b.toNat < 128 := by decide +kernel
theorem abc_at {i : Nat} (h : i < 39) : ∃ b : UInt8, abc[i]? = some b ∧ b.toNat < 128 := by
  have hx : abc[i]? = some (abc[i]'h) := getElem?_pos abc i h
  exact ⟨_, hx, abc_lt _ (Array.getElem_mem_toList (xs := abc.data) h)⟩
set_option maxHeartbeats 4000000 in
theorem indexRune_ok (M : Mem) (L : HL) (r : Int) : TrQ Tryz.prog 147 [.string abc, .int .i32 r] M L (.int .i64 (runeIx r)) := by
  refine Tr.intro 187 Tryz.func147 rfl rfl Tryz.call147 rfl ?_
  intro C hC hro
  repeat (first | refine zz ?_ | refine zx fun _ => ?_)
  refine run_cond rfl (fun h => ?_) (fun h => ?_)
  · have h0 : 0 ≤ r ∧ r < 128 := by simpa using h
    repeat (first | refine zz ?_ | refine zx fun _ => ?_ | refine runL_q (qt_callF rfl (fun _ => indexByte_ok _ _ abc _)) rfl rfl rfl ?_)
    refine run_ret hC (rs := [.tmp 4]) rfl (resT rfl resN) (fun _ h => h) ⟨?_, rfl, rfl⟩
    rw [runeIx, if_pos h0]; rfl
  have h0 : ¬ (0 ≤ r ∧ r < 128) := by simpa using h
  have hres : runeIx r = -1 := by rw [runeIx, if_neg h0]
  repeat (first | refine zz ?_ | refine zx fun _ => ?_)
  refine run_cond rfl (fun h1 => ?_) (fun h1 => ?_)
  · repeat (first | refine zz ?_ | refine zx fun _ => ?_ | (refine runL_op (st_rangeS tok rfl rfl) rfl rfl rfl ?_; rintro _ _ _ ⟨b, rfl, rfl, rfl⟩))
    refine run_loopN (fun i σ1 M1 L1 => i ≤ 39 ∧ σ1 = [(175, .pointer (some ⟨b, 0, none⟩))] ∧ M = M1 ∧ L1 = (b, .stringIter abc i) :: L) 39 [(175, .pointer (some ⟨b, 0, none⟩))] ?_ ⟨Nat.zero_le _, rfl, rfl, rfl⟩ (fun j _ _ _ h => h.1) ?_
    · exact ⟨rfl, trivial⟩
    rintro i _ _ _ ⟨hi, rfl, rfl, rfl⟩ hnext
    by_cases hlt : i < 39
    · have hd : Utf8.decode abc i = ((abc[i]'hlt).toNat, 1) := decode_ascii abc i hlt (abc_lt _ (Array.getElem_mem_toList (xs := abc.data) hlt))
      have hb' : (abc[i]'hlt).toNat < 128 := abc_lt _ (Array.getElem_mem_toList (xs := abc.data) hlt)
      repeat (first | refine zz ?_ | refine zx fun _ => ?_ | (refine runL_op (st_nextS rfl (by (repeat (first | with_reducible apply Upd.here | with_reducible apply Upd.there | with_reducible apply Upd.append_left))) hlt) rfl rfl rfl ?_; rintro _ _ _ ⟨rfl, rfl, rfl⟩))
      refine run_cond rfl (fun _ => ?_) (fun h => by cases h)
      repeat (first | refine zz ?_ | refine zx fun _ => ?_)
      refine run_cond rfl (fun h2 => ?_) (fun h2 => ?_)
      · exfalso
        rw [hd] at h2
        have h3 : (((abc[i]'hlt).toNat : Int)) = 65533 := by simpa using h2
        omega
      · repeat (first | refine zz ?_ | refine zx fun _ => ?_)
        exact run_sub' (hnext _ _ _ ⟨hlt, rfl, rfl, by rw [hd]⟩) ⟨rfl, trivial⟩
    · repeat (first | refine zz ?_ | refine zx fun _ => ?_ | refine runL_q (qt_nextEnd rfl (by (repeat (first | with_reducible apply List.mem_cons_self | with_reducible assumption | with_reducible apply List.mem_cons_of_mem | with_reducible apply List.mem_append_right))) hlt) rfl rfl rfl ?_)
      refine run_cond rfl (fun h => by cases h) (fun _ => ?_)
      repeat (first | refine zz ?_ | refine zx fun _ => ?_)
      exact run_ret hC (rs := [.tmp 4]) rfl (resT rfl resN) (fun _ h => h.drop) ⟨by rw [hres]; rfl, rfl, rfl⟩
  · repeat (first | refine zz ?_ | refine zx fun _ => ?_ | refine runL_q (qt_callF rfl (fun _ => validRune_ok _ _ r)) rfl rfl rfl ?_)
    refine run_cond rfl (fun h2 => ?_) (fun h2 => ?_)
    · repeat (first | refine zz ?_ | refine zx fun _ => ?_)
      exact run_ret hC (rs := [.tmp 4]) rfl (resT rfl resN) (fun _ h => h) ⟨by rw [hres]; rfl, rfl, rfl⟩
    have hv : validRune r = true := by simpa using h2
    have h128 : 128 ≤ r := by
      simp only [validRune, decide_eq_true_eq] at hv
      omega
    obtain ⟨hz2, hz4, hlast⟩ := encode_facts r (by rw [validRune_eq]; exact hv) h128
    obtain ⟨m, hm⟩ : ∃ m : Nat, (Utf8.encode r).size = m + 1 := ⟨(Utf8.encode r).size - 1, by omega⟩
    have hlast' := hlast (by omega)
    obtain ⟨c, hc, hc128⟩ : ∃ c : UInt8, (Utf8.encode r)[m]? = some c ∧ 128 ≤ c.toNat := by
      refine ⟨(Utf8.encode r)[m]'(by omega), by simp [hm], ?_⟩
      have : (Utf8.encode r).size - 1 = m := by omega
      simpa only [this] using hlast'
    obtain ⟨a0, ha0, ha1⟩ := abc_at (i := m) (by omega)
    repeat (first | refine zz ?_ | refine zx fun _ => ?_ | refine run_scope ?_ | refine runL_q (qt_runeStr tok rfl rfl rfl) rfl rfl rfl ?_)
    refine run_as 8 (.int .i64 (m : Int)) rfl (by rw [show (((Utf8.encode r).size : Int) - 1) = (m : Int) by omega, wrap64_nat (by omega)]) ?_
    refine run_as 9 (.int .i64 (m : Int)) rfl (by rw [show (((Utf8.encode r).size : Int) - 1) = (m : Int) by omega, wrap64_nat (by omega)]) ?_
    repeat (first | refine zz ?_ | refine zx fun _ => ?_)
    refine run_loop ?_
    repeat (first | refine zz ?_ | refine zx fun _ => ?_)
    refine run_cond rfl (fun _ => ?_) (fun h3 => ?_)
    rotate_left
    · exfalso
      have h3' : ¬ ((m : Int) < (abc.size : Int)) := by simpa using h3
      have : abc.size = 39 := rfl
      omega
    repeat (first | refine zz ?_ | refine zx fun _ => ?_ | refine dd ?_ | refine dz ?_ | refine dx fun _ => ?_ | refine run_scope ?_ | refine prn_q rfl (qt_strIndex tok rfl rfl rfl (fun _ => ha0)) (by decide +kernel) rfl rfl rfl ?_ | refine prn_q rfl (qt_strIndex tok rfl rfl rfl (fun _ => hc)) (by decide +kernel) rfl rfl rfl ?_)
    refine run_cond rfl (fun _ => ?_) (fun h4 => ?_)
    rotate_left
    · exfalso
      have h4' : (a0.toNat : Int) = (c.toNat : Int) := by simpa using h4
      omega
    have hm1 : IntKind.i64.wrap ((m : Int) + 1) = ((m + 1 : Nat) : Int) := wrap64_succ (by omega)
    repeat (first | refine zz ?_ | refine zx fun _ => ?_ | refine dd ?_ | refine dz ?_ | refine dx fun _ => ?_)
    refine pr_as 36 (.int .i64 ((m + 1 : Nat) : Int)) rfl (by rw [hm1]) ?_
    repeat (first | refine zz ?_ | refine zx fun _ => ?_ | refine dd ?_ | refine dz ?_ | refine dx fun _ => ?_ | refine prn_q rfl (qt_strLo tok rfl rfl rfl (fun _ => show m + 1 ≤ 39 by omega)) (by decide +kernel) rfl rfl rfl ?_ | refine prn_q rfl (qt_strIndex tok rfl rfl rfl (fun _ => hc)) (by decide +kernel) rfl rfl rfl ?_ | refine prn_q rfl (qt_callF rfl (fun _ => indexByte_ok _ _ _ _)) (by decide +kernel) rfl rfl rfl ?_)
    refine run_cond rfl (fun _ => ?_) (fun h5 => ?_)
    · repeat (first | refine zz ?_ | refine zx fun _ => ?_)
      exact run_ret hC (rs := [.tmp 4]) rfl (resT rfl resN) (fun _ h => h) ⟨by rw [hres]; rfl, rfl, rfl⟩
    · exfalso
      rw [firstIdx_ascii abc _ _ _ abc_lt (by simpa using hc128)] at h5
      cases h5
end Go.Proofs.YtkjljcgbnikmkaaGreatDoor
namespace Go.Proofs.YtkjljcgbnikmkaaGreatDoor
open Go.Chi
set_option maxRecDepth 10000
def inAbc (r : Int) : Bool := decide (0 ≤ runeIx r)
theorem containsRune_ok (M : Mem) (L : HL) (r : Int) : TrQ Tryz.prog 146 [.string abc, .int .i32 r] M L (.bool (inAbc r)) := by
  refine Tr.intro 9 Tryz.func146 rfl rfl Tryz.call146 rfl ?_
  intro C hC hro
  repeat (first | refine zz ?_ | refine zx fun _ => ?_ | refine runL_q (qt_callF rfl (fun _ => indexRune_ok _ _ r)) rfl rfl rfl ?_)
  exact run_ret hC (rs := [.tmp 4]) rfl (resT rfl resN) (fun _ h => h) ⟨rfl, rfl, rfl⟩
theorem decode_wide (s : ByteArray) {p : Nat} (h : p < s.size) : 1 ≤ (Utf8.decode s p).2 := by
  by_cases ha : (s[p]'h).toNat < 128
  · rw [decode_ascii s p h ha]; exact Nat.le_refl _
  · exact (decode_high s p h (by omega)).2
def namedAt (s : ByteArray) : Nat → Nat → Bool
  | 0, _ => true
  | f + 1, p => if p < s.size then inAbc (Utf8.decode s p).1 && namedAt s f (p + (Utf8.decode s p).2) else true
def namedR (s : ByteArray) : Bool := namedAt s (s.size + 1) 0 && decide (s.size ≠ 0)
theorem namedAt_end (s : ByteArray) {p : Nat} (h : ¬ p < s.size) : ∀ f, namedAt s f p = true
  | 0 => rfl
  | f + 1 => by rw [namedAt, if_neg h]
set_option maxRecDepth 10000 in
set_option maxHeartbeats 4000000 in
theorem named_ok (M : Mem) (L : HL) (s : ByteArray) : TrQ Tryz.prog 144 [.string s] M L (.bool (namedR s)) := by
  refine Tr.intro 15 Tryz.func144 rfl rfl Tryz.call144 rfl ?_
  intro C hC hro
  repeat (first | refine zz ?_ | refine zx fun _ => ?_ | (refine runL_op (st_rangeS tok rfl rfl) rfl rfl rfl ?_; rintro _ _ _ ⟨b, rfl, rfl, rfl⟩))
  refine run_loopN (fun i σ1 M1 L1 => i ≤ s.size ∧ ∃ p, i ≤ p ∧ namedAt s (s.size + 1 - i) p = namedAt s (s.size + 1) 0 ∧ σ1 = [(6, .pointer (some ⟨b, 0, none⟩)), (0, .string s)] ∧ M = M1 ∧ L1 = (b, .stringIter s p) :: L) s.size [(6, .pointer (some ⟨b, 0, none⟩)), (0, .string s)] ?_ ⟨Nat.zero_le _, 0, Nat.le_refl _, rfl, rfl, rfl, rfl⟩ (fun j _ _ _ h => h.1) ?_
  · exact ⟨rfl, rfl, trivial⟩
  rintro i _ _ _ ⟨hi, p, hip, hn, rfl, rfl, rfl⟩ hnext
  by_cases hlt : p < s.size
  · have hw := decode_wide s hlt
    rw [show s.size + 1 - i = (s.size + 1 - (i + 1)) + 1 by omega, namedAt, if_pos hlt] at hn
    repeat (first | refine zz ?_ | refine zx fun _ => ?_ | (refine runL_op (st_nextS rfl (by (repeat (first | with_reducible apply Upd.here | with_reducible apply Upd.there | with_reducible apply Upd.append_left))) hlt) rfl rfl rfl ?_; rintro _ _ _ ⟨rfl, rfl, rfl⟩))
    refine run_cond rfl (fun _ => ?_) (fun h => by cases h)
    repeat (first | refine zz ?_ | refine zx fun _ => ?_ | refine runL_q (qt_callF rfl (fun _ => containsRune_ok _ _ _)) rfl rfl rfl ?_)
    refine run_cond rfl (fun h2 => ?_) (fun h2 => ?_)
    · have h3 : inAbc (Utf8.decode s p).1 = false := by simpa using h2
      repeat (first | refine zz ?_ | refine zx fun _ => ?_)
      refine run_ret hC (rs := [.tmp 2]) rfl (resT rfl resN) (fun _ h => h.drop) ⟨?_, rfl, rfl⟩
      rw [namedR, ← hn, h3]; rfl
    · have h3 : inAbc (Utf8.decode s p).1 = true := by simpa using h2
      repeat (first | refine zz ?_ | refine zx fun _ => ?_)
      exact run_sub' (hnext _ _ _ ⟨by omega, p + (Utf8.decode s p).2, by omega, by rw [← hn, h3]; rfl, rfl, rfl, rfl⟩) ⟨rfl, rfl, trivial⟩
  · rw [namedAt_end s hlt] at hn
    repeat (first | refine zz ?_ | refine zx fun _ => ?_ | refine runL_q (qt_nextEnd rfl (by (repeat (first | with_reducible apply List.mem_cons_self | with_reducible assumption | with_reducible apply List.mem_cons_of_mem | with_reducible apply List.mem_append_right))) hlt) rfl rfl rfl ?_)
    refine run_cond rfl (fun h => by cases h) (fun _ => ?_)
    repeat (first | refine zz ?_ | refine zx fun _ => ?_)
    refine run_ret hC (rs := [.tmp 2]) rfl (resT rfl resN) (fun _ h => h.drop) ⟨?_, rfl, rfl⟩
    rw [namedR, ← hn, empty_beq]
    by_cases h0 : s.size = 0
    · simp [h0]; rfl
    · simp [h0]; rfl
theorem u64_pos (k : IntKind) (h : k = .u64) (x : Int) : 0 ≤ k.wrap x ∧ k.wrap x < 18446744073709551616 := by
  subst h
  simp only [IntKind.wrap, IntKind.signed, IntKind.bits]
  simp
  omega
theorem byte_pos (s : ByteArray) (i : Nat) : 0 ≤ byte s i ∧ byte s i < 256 := by
  have := ((s[i]?).getD 0).toNat_lt
  simp only [byte]
  omega
theorem numV_pos (s : ByteArray) (i : Nat) : 0 ≤ numV s i := by
  cases i with
  | zero => exact Int.le_refl _
  | succ i => exact (u64_pos .u64 rfl _).1
theorem numR_pos (s : ByteArray) : 0 ≤ (numR s).1 := by
  unfold numR
  repeat' split
  all_goals first | exact Int.le_refl _ | exact (byte_pos _ _).1 | exact numV_pos _ _
theorem numR_len (s : ByteArray) (h : (numR s).2.2 = 0) : ∃ n : Nat, (numR s).2.1 = n ∧ 1 ≤ n ∧ n ≤ s.size := by
  have hb := byte_pos s 0
  have hr : s.size ≠ 0 → (rest1 s).size = s.size - 1 := fun _ => by simp [rest1]
  unfold numR at h ⊢
  split at h
  · cases h
  · rename_i h0
    rw [if_neg h0]
    split at h
    · rename_i h1; rw [if_pos h1]; exact ⟨1, rfl, by omega, by omega⟩
    · rename_i h1
      rw [if_neg h1]
      split at h
      · cases h
      · rename_i h2
        rw [if_neg h2]
        split at h
        · cases h
        · rename_i h3
          rw [if_neg h3]
          have := hr h0
          exact ⟨(byte s 0 - 247 + 1).toNat, show byte s 0 - 247 + 1 = _ by omega, by omega, by omega⟩
def textR (s : ByteArray) (most : Nat) : ByteArray × Int × Int :=
  if (numR s).2.2 ≠ 0 then (⟨#[]⟩, 0, (numR s).2.2) else
  if (most : Int) < (numR s).1 then (⟨#[]⟩, 0, 5) else
  if (s.size : Int) - (numR s).2.1 < (numR s).1 then (⟨#[]⟩, 0, 6) else
  (s.extract (numR s).2.1.toNat ((numR s).2.1 + (numR s).1).toNat, (numR s).2.1 + (numR s).1, 0)
theorem u64_nat {n : Nat} (h : n < 18446744073709551616) : IntKind.u64.wrap (n : Int) = n := by
  simp only [IntKind.wrap, IntKind.signed, IntKind.bits]
  simp
  omega
set_option maxRecDepth 10000 in
set_option maxHeartbeats 4000000 in
theorem readText_ok (M : Mem) (L : HL) (s : ByteArray) (most : Nat) (hs : s.size < 4611686018427387904) (hm : most < 4611686018427387904) : TrQ Tryz.prog 97 [.string s, .int .i64 (most : Int)] M L (.tuple ⟨[.string (textR s most).1, .int .i64 (textR s most).2.1, .int .i64 (textR s most).2.2]⟩) := by
  refine Tr.intro 43 Tryz.func97 rfl rfl Tryz.call97 rfl ?_
  intro C hC hro
  repeat (first | refine zz ?_ | refine zx fun _ => ?_ | refine runL_q (qt_callF rfl (fun _ => readNum_ok _ _ s)) rfl rfl rfl ?_)
  refine run_cond rfl (fun h => ?_) (fun h => ?_)
  · have h0 : (numR s).2.2 ≠ 0 := by simpa using h
    repeat (first | refine zz ?_ | refine zx fun _ => ?_)
    exact run_ret hC (rs := [.tmp 4, .tmp 5, .tmp 6]) rfl (resT rfl (resT rfl (resT rfl resN))) (fun _ h => h) ⟨by rw [textR, if_pos h0]; rfl, rfl, rfl⟩
  have h0 : (numR s).2.2 = 0 := by simpa using h
  obtain ⟨n, hn, hn1, hn2⟩ := numR_len s h0
  have hv0 := numR_pos s
  have e1 : IntKind.u64.wrap (if (0 : Int) > (most : Int) then 0 else (most : Int)) = (most : Int) := by rw [if_neg (by omega), u64_nat (by omega)]
  repeat (first | refine zz ?_ | refine zx fun _ => ?_ | refine runL_q (qt_max2 rfl rfl) rfl rfl rfl ?_)
  refine run_cond rfl (fun h1 => ?_) (fun h1 => ?_)
  · rw [e1] at h1
    have h2 : (most : Int) < (numR s).1 := by simpa using h1
    repeat (first | refine zz ?_ | refine zx fun _ => ?_)
    exact run_ret hC (rs := [.tmp 4, .tmp 5, .tmp 6]) rfl (resT rfl (resT rfl (resT rfl resN))) (fun _ h => h) ⟨by rw [textR, if_neg (by simp [h0]), if_pos h2]; rfl, rfl, rfl⟩
  rw [e1] at h1
  have h2 : ¬ (most : Int) < (numR s).1 := by simpa using h1
  have e2 : IntKind.u64.wrap (IntKind.i64.wrap ((s.size : Int) - (numR s).2.1)) = (s.size : Int) - (numR s).2.1 := by
    rw [hn, show (s.size : Int) - (n : Int) = ((s.size - n : Nat) : Int) by omega, wrap64_nat (by omega), u64_nat (by omega)]
  obtain ⟨v, hv⟩ : ∃ v : Nat, (numR s).1 = v := ⟨(numR s).1.toNat, by omega⟩
  repeat (first | refine zz ?_ | refine zx fun _ => ?_)
  refine run_cond rfl (fun h3 => ?_) (fun h3 => ?_)
  · have h4 : (s.size : Int) - (numR s).2.1 < (numR s).1 := by
      have := of_decide_eq_true h3
      rwa [e2] at this
    repeat (first | refine zz ?_ | refine zx fun _ => ?_)
    exact run_ret hC (rs := [.tmp 4, .tmp 5, .tmp 6]) rfl (resT rfl (resT rfl (resT rfl resN))) (fun _ h => h) ⟨by rw [textR, if_neg (by simp [h0]), if_neg h2, if_pos h4]; rfl, rfl, rfl⟩
  have h4 : ¬ (s.size : Int) - (numR s).2.1 < (numR s).1 := by
    have := of_decide_eq_false h3
    rwa [e2] at this
  refine run_as 5 (.int .i64 (n : Int)) rfl (by rw [hn]) ?_
  refine run_as 7 (.int .u64 (v : Int)) rfl (by rw [hv]) ?_
  have e3 : IntKind.i64.wrap ((n : Int) + IntKind.i64.wrap (v : Int)) = ((n + v : Nat) : Int) := by
    rw [wrap64_nat (by omega), show (n : Int) + (v : Int) = ((n + v : Nat) : Int) by omega, wrap64_nat (by omega)]
  repeat (first | refine zz ?_ | refine zx fun _ => ?_)
  refine runL_as 37 (.int .i64 ((n + v : Nat) : Int)) rfl (by rw [e3]) ?_
  repeat (first | refine zz ?_ | refine zx fun _ => ?_ | refine runL_q (qt_strMid tok rfl rfl rfl rfl (fun _ => ⟨by omega, by omega⟩)) rfl rfl rfl ?_)
  refine run_ret hC (rs := [.tmp 4, .tmp 5, .tmp 6]) rfl (resT rfl (resT rfl (resT rfl resN))) (fun _ h => h) ⟨?_, rfl, rfl⟩
  rw [textR, if_neg (by simp [h0]), if_neg h2, if_neg h4, e3, hn, hv, show ((n : Int) + (v : Int)).toNat = n + v by omega, Int.toNat_natCast, show (n : Int) + (v : Int) = ((n + v : Nat) : Int) by omega]
  rfl
end Go.Proofs.YtkjljcgbnikmkaaGreatDoor
namespace Go.Proofs.YtkjljcgbnikmkaaGreatDoor
open Go.Chi
set_option maxRecDepth 10000
theorem runL_must {C : Cx} {n : Nat} {ops : Array Oper} {k : List Item} {ds : List Deferred} {σ : Env} {δ : Den} {M : Mem} {L : HL} {d : Nat} {ty : TypeId} {pos : String} {aft : Array Edge} {l : List Oper} {args : Array Operand} {tys : Array TypeId} {e : Int}
    (ha : evs σ δ [] args.toList = some [.int .i64 e]) (hd : Nat.blt d n = true) (hn : lkd δ d = none) (hu : unNamed δ d = true)
    (h0 : e = 0 → RunL Tryz.prog C n ops l k ds ((d, .tuple ⟨[]⟩) :: σ) δ M L) (h1 : e ≠ 0 → RunX Tryz.prog C n (.panicking (pan e)) ds σ M L) :
    RunL Tryz.prog C n ops (⟨some d, .call ⟨.value (.func 139), args, tys⟩, ty, pos, aft, none⟩ :: l) k ds σ δ M L := by
  refine runL_callE ha (must_ok _ _ e) hd hn hu ?_ ?_
  · rintro v _ _ ⟨rfl, rfl, hv⟩
    by_cases he : e = 0
    · rw [if_pos he, Ending.returned.injEq] at hv; subst hv; exact h0 he
    · rw [if_neg he] at hv; cases hv
  · rintro v _ _ ⟨rfl, rfl, hv⟩
    by_cases he : e = 0
    · rw [if_pos he] at hv; cases hv
    · rw [if_neg he, Ending.panicked.injEq] at hv; subst hv; exact h1 he
def frontR (s : ByteArray) : Except Int (Nat × Nat) :=
  if s.size = 0 then .error 6 else
  if byte s 0 = 100 then (if (textR (rest1 s) 1024).2.2 ≠ 0 then .error (textR (rest1 s) 1024).2.2 else .ok ((1 + (textR (rest1 s) 1024).2.1).toNat, 0)) else
  if byte s 0 = 97 then (if (textR (rest1 s) 32).2.2 ≠ 0 then .error (textR (rest1 s) 32).2.2 else if namedR (textR (rest1 s) 32).1 = false then .error 7 else .ok ((1 + (textR (rest1 s) 32).2.1).toNat, 0)) else
  if byte s 0 = 114 then (if (numR (rest1 s)).2.2 ≠ 0 then .error (numR (rest1 s)).2.2 else if 32 < (numR (rest1 s)).1 then .error 5 else .ok ((1 + (numR (rest1 s)).2.1).toNat, (numR (rest1 s)).1.toNat)) else
  if byte s 0 = 104 then .ok (1, 1) else
  if byte s 0 = 109 then .ok (1, 2) else
  if byte s 0 = 115 then .ok (1, 3) else .error 7
def frontK (r : Except Int (Nat × Nat)) (M : Mem) (L : HL) (en : Ending) (M' : Mem) (L' : HL) : Prop := M = M' ∧ L = L' ∧ match r with | .ok x => en = .returned (.tuple ⟨[.int .i64 (x.1 : Int), .int .i64 (x.2 : Int)]⟩) | .error e => en = .panicked (pan e)
theorem textR_len (s : ByteArray) (most : Nat) (h : (textR s most).2.2 = 0) : ∃ n : Nat, (textR s most).2.1 = n ∧ 1 ≤ n ∧ n ≤ s.size := by
  have hv := numR_pos s
  unfold textR at h ⊢
  split at h
  · rename_i h1; exact absurd h h1
  · rename_i h0
    obtain ⟨n, hn, h1, h2⟩ := numR_len s (by simpa using h0)
    rw [if_neg h0]
    split at h
    · cases h
    · rename_i h3
      rw [if_neg h3]
      split at h
      · cases h
      · rename_i h4
        rw [if_neg h4]
        exact ⟨((numR s).2.1 + (numR s).1).toNat, show (numR s).2.1 + (numR s).1 = _ by omega, by omega, by omega⟩
theorem rest1_size {s : ByteArray} : (rest1 s).size = s.size - 1 := by simp [rest1]
theorem byte_eq {s : ByteArray} {b : UInt8} {c : Int} (h : byte s 0 = (b.toNat : Int)) {t : Bool} (hb : (((b.toNat : Int) == c)) = t) : (if t then byte s 0 = c else byte s 0 ≠ c) := by
  subst hb
  split <;> rename_i h1 <;> rw [h] <;> simpa using h1
theorem one_wrap {n : Nat} (h : n < 4611686018427387904) : IntKind.i64.wrap (1 + (n : Int)) = ((1 + n : Nat) : Int) := by
  rw [show (1 : Int) + (n : Int) = ((1 + n : Nat) : Int) by omega, wrap64_nat (by omega)]
set_option maxRecDepth 10000 in
set_option maxHeartbeats 8000000 in
theorem front_ok (M : Mem) (L : HL) (s : ByteArray) (hs : s.size < 4611686018427387904) : TrE Tryz.prog 142 [.string s] M L (frontK (frontR s) M L) := by
  refine TrE.intro 73 Tryz.func142 rfl rfl Tryz.call142 rfl ?_
  intro C hC hro
  repeat (first | refine zz ?_ | refine zx fun _ => ?_)
  refine run_cond rfl (fun h => ?_) (fun h => ?_)
  · repeat (first | refine zz ?_ | refine zx fun _ => ?_)
    rw [empty_beq, decide_eq_true_eq] at h
    refine runL_must rfl rfl rfl rfl (fun h => by cases h) (fun _ => ?_)
    exact runX_pan hC (fun _ h => h) ⟨rfl, rfl, by rw [frontR, if_pos h]⟩
  rw [empty_beq, decide_eq_false_iff_not] at h
  have hp : 0 < s.size := by omega
  obtain ⟨b0, hb0, hb0'⟩ := byte_at hp
  have hr : (rest1 s).size < 4611686018427387904 := by rw [rest1_size]; omega
  repeat (first | refine zz ?_ | refine zx fun _ => ?_ | refine runL_q (qt_strIndex (n := 0) tok rfl rfl rfl (fun _ => hb0)) rfl rfl rfl ?_)
  refine run_cond rfl (fun h1 => ?_) (fun h1 => ?_)
  · have hb1 : byte s 0 = 100 := byte_eq hb0' h1
    repeat (first | refine zz ?_ | refine zx fun _ => ?_ | refine runL_q (qt_strLo (n := 1) tok rfl rfl rfl (fun _ => hp)) rfl rfl rfl ?_ | refine runL_q (qt_callF rfl (fun _ => readText_ok _ _ (rest1 s) 1024 hr (by decide))) rfl rfl rfl ?_)
    refine runL_must rfl rfl rfl rfl (fun h2 => ?_) (fun h2 => ?_)
    · obtain ⟨m, hm, hm1, hm2⟩ := textR_len _ _ h2
      repeat (first | refine zz ?_ | refine zx fun _ => ?_)
      refine run_retX hro ?_
      refine runX_ret hC (rs := [.tmp 2, .tmp 3]) rfl (resT rfl (resT rfl resN)) (fun _ h => h) ⟨rfl, rfl, ?_⟩
      rw [frontR, if_neg h, if_pos hb1, if_neg (by simp [h2]), hm, one_wrap (by omega), show (1 + (m : Int)).toNat = 1 + m by omega]
      rfl
    · exact runX_pan hC (fun _ h => h) ⟨rfl, rfl, by rw [frontR, if_neg h, if_pos hb1, if_pos h2]⟩
  have hb1 : byte s 0 ≠ 100 := byte_eq hb0' h1
  repeat (first | refine zz ?_ | refine zx fun _ => ?_)
  refine run_cond rfl (fun h1 => ?_) (fun h1 => ?_)
  · have hb2 : byte s 0 = 97 := byte_eq hb0' h1
    repeat (first | refine zz ?_ | refine zx fun _ => ?_ | refine runL_q (qt_strLo (n := 1) tok rfl rfl rfl (fun _ => hp)) rfl rfl rfl ?_ | refine runL_q (qt_callF rfl (fun _ => readText_ok _ _ (rest1 s) 32 hr (by decide))) rfl rfl rfl ?_)
    refine runL_must rfl rfl rfl rfl (fun h2 => ?_) (fun h2 => ?_)
    · obtain ⟨m, hm, hm1, hm2⟩ := textR_len _ _ h2
      repeat (first | refine zz ?_ | refine zx fun _ => ?_ | refine runL_q (qt_callF rfl (fun _ => named_ok _ _ _)) rfl rfl rfl ?_)
      refine run_cond rfl (fun h3 => ?_) (fun h3 => ?_)
      · have h4 : namedR (textR (rest1 s) 32).1 = false := by simpa using h3
        repeat (first | refine zz ?_ | refine zx fun _ => ?_)
        refine runL_must rfl rfl rfl rfl (fun h => by cases h) (fun _ => ?_)
        exact runX_pan hC (fun _ h => h) ⟨rfl, rfl, by rw [frontR, if_neg h, if_neg hb1, if_pos hb2, if_neg (by simp [h2]), if_pos h4]⟩
      · have h4 : ¬ namedR (textR (rest1 s) 32).1 = false := by simpa using h3
        repeat (first | refine zz ?_ | refine zx fun _ => ?_)
        refine run_retX hro ?_
        refine runX_ret hC (rs := [.tmp 2, .tmp 3]) rfl (resT rfl (resT rfl resN)) (fun _ h => h) ⟨rfl, rfl, ?_⟩
        rw [frontR, if_neg h, if_neg hb1, if_pos hb2, if_neg (by simp [h2]), if_neg h4, hm, one_wrap (by omega), show (1 + (m : Int)).toNat = 1 + m by omega]
        rfl
    · exact runX_pan hC (fun _ h => h) ⟨rfl, rfl, by rw [frontR, if_neg h, if_neg hb1, if_pos hb2, if_pos h2]⟩
  have hb2 : byte s 0 ≠ 97 := byte_eq hb0' h1
  repeat (first | refine zz ?_ | refine zx fun _ => ?_)
  refine run_cond rfl (fun h1 => ?_) (fun h1 => ?_)
  · have hb3 : byte s 0 = 114 := byte_eq hb0' h1
    repeat (first | refine zz ?_ | refine zx fun _ => ?_ | refine runL_q (qt_strLo (n := 1) tok rfl rfl rfl (fun _ => hp)) rfl rfl rfl ?_ | refine runL_q (qt_callF rfl (fun _ => readNum_ok _ _ (rest1 s))) rfl rfl rfl ?_)
    refine runL_must rfl rfl rfl rfl (fun h2 => ?_) (fun h2 => ?_)
    · obtain ⟨m, hm, hm1, hm2⟩ := numR_len _ h2
      have hv0 := numR_pos (rest1 s)
      repeat (first | refine zz ?_ | refine zx fun _ => ?_)
      refine run_cond rfl (fun h3 => ?_) (fun h3 => ?_)
      · have h4 : 32 < (numR (rest1 s)).1 := by simpa using h3
        repeat (first | refine zz ?_ | refine zx fun _ => ?_)
        refine runL_must rfl rfl rfl rfl (fun h => by cases h) (fun _ => ?_)
        exact runX_pan hC (fun _ h => h) ⟨rfl, rfl, by rw [frontR, if_neg h, if_neg hb1, if_neg hb2, if_pos hb3, if_neg (by simp [h2]), if_pos h4]⟩
      · have h4 : ¬ 32 < (numR (rest1 s)).1 := by simpa using h3
        repeat (first | refine zz ?_ | refine zx fun _ => ?_)
        refine run_retX hro ?_
        refine runX_ret hC (rs := [.tmp 2, .tmp 3]) rfl (resT rfl (resT rfl resN)) (fun _ h => h) ⟨rfl, rfl, ?_⟩
        obtain ⟨v, hv⟩ : ∃ v : Nat, (numR (rest1 s)).1 = v := ⟨(numR (rest1 s)).1.toNat, by omega⟩
        rw [frontR, if_neg h, if_neg hb1, if_neg hb2, if_pos hb3, if_neg (by simp [h2]), if_neg h4, hm, hv, one_wrap (by omega), wrap64_nat (by omega), show (1 + (m : Int)).toNat = 1 + m by omega, Int.toNat_natCast]
        rfl
    · exact runX_pan hC (fun _ h => h) ⟨rfl, rfl, by rw [frontR, if_neg h, if_neg hb1, if_neg hb2, if_pos hb3, if_pos h2]⟩
  have hb3 : byte s 0 ≠ 114 := byte_eq hb0' h1
  repeat (first | refine zz ?_ | refine zx fun _ => ?_)
  refine run_cond rfl (fun h1 => ?_) (fun h1 => ?_)
  · have hb4 : byte s 0 = 104 := byte_eq hb0' h1
    repeat (first | refine zz ?_ | refine zx fun _ => ?_)
    refine run_retX hro ?_
    refine runX_ret hC (rs := [.tmp 2, .tmp 3]) rfl (resT rfl (resT rfl resN)) (fun _ h => h) ⟨rfl, rfl, ?_⟩
    rw [frontR, if_neg h, if_neg hb1, if_neg hb2, if_neg hb3, if_pos hb4]; rfl
  have hb4 : byte s 0 ≠ 104 := byte_eq hb0' h1
  repeat (first | refine zz ?_ | refine zx fun _ => ?_)
  refine run_cond rfl (fun h1 => ?_) (fun h1 => ?_)
  · have hb5 : byte s 0 = 109 := byte_eq hb0' h1
    repeat (first | refine zz ?_ | refine zx fun _ => ?_)
    refine run_retX hro ?_
    refine runX_ret hC (rs := [.tmp 2, .tmp 3]) rfl (resT rfl (resT rfl resN)) (fun _ h => h) ⟨rfl, rfl, ?_⟩
    rw [frontR, if_neg h, if_neg hb1, if_neg hb2, if_neg hb3, if_neg hb4, if_pos hb5]; rfl
  have hb5 : byte s 0 ≠ 109 := byte_eq hb0' h1
  repeat (first | refine zz ?_ | refine zx fun _ => ?_)
  refine run_cond rfl (fun h1 => ?_) (fun h1 => ?_)
  · have hb6 : byte s 0 = 115 := byte_eq hb0' h1
    repeat (first | refine zz ?_ | refine zx fun _ => ?_)
    refine run_retX hro ?_
    refine runX_ret hC (rs := [.tmp 2, .tmp 3]) rfl (resT rfl (resT rfl resN)) (fun _ h => h) ⟨rfl, rfl, ?_⟩
    rw [frontR, if_neg h, if_neg hb1, if_neg hb2, if_neg hb3, if_neg hb4, if_neg hb5, if_pos hb6]; rfl
  have hb6 : byte s 0 ≠ 115 := byte_eq hb0' h1
  repeat (first | refine zz ?_ | refine zx fun _ => ?_)
  refine runL_must rfl rfl rfl rfl (fun h => by cases h) (fun _ => ?_)
  exact runX_pan hC (fun _ h => h) ⟨rfl, rfl, by rw [frontR, if_neg h, if_neg hb1, if_neg hb2, if_neg hb3, if_neg hb4, if_neg hb5, if_neg hb6]⟩
end Go.Proofs.YtkjljcgbnikmkaaGreatDoor
namespace Go.Proofs.YtkjljcgbnikmkaaGreatDoor
open Go.Chi
set_option maxRecDepth 10000
theorem frontR_len {s : ByteArray} {n p : Nat} (h : frontR s = .ok (n, p)) : 1 ≤ n ∧ n ≤ s.size ∧ p ≤ 32 := by
  have hr := rest1_size (s := s)
  unfold frontR at h
  split at h
  · cases h
  rename_i h0
  split at h
  · split at h
    · cases h
    · rename_i h2
      obtain ⟨m, hm, _, _⟩ := textR_len (rest1 s) 1024 (by simpa using h2)
      simp only [Except.ok.injEq, Prod.mk.injEq] at h
      omega
  split at h
  · split at h
    · cases h
    · split at h
      · cases h
      · rename_i h2 _
        obtain ⟨m, hm, _, _⟩ := textR_len (rest1 s) 32 (by simpa using h2)
        simp only [Except.ok.injEq, Prod.mk.injEq] at h
        omega
  split at h
  · split at h
    · cases h
    · split at h
      · cases h
      · rename_i h2 _
        obtain ⟨m, hm, _, _⟩ := numR_len (rest1 s) (by simpa using h2)
        simp only [Except.ok.injEq, Prod.mk.injEq] at h
        have := numR_pos (rest1 s)
        omega
  split at h
  · simp only [Except.ok.injEq, Prod.mk.injEq] at h; omega
  split at h
  · simp only [Except.ok.injEq, Prod.mk.injEq] at h; omega
  split at h
  · simp only [Except.ok.injEq, Prod.mk.injEq] at h; omega
  · cases h
def iter (f : Nat → Except Int Nat) : Nat → Nat → Except Int Nat
  | 0, x => .ok x
  | i + 1, x => match f x with
    | .error e => .error e
    | .ok y => iter f i y
def walkR (s : ByteArray) : Nat → Nat → Except Int Nat
  | 0, _ => .error 60
  | k + 1, a => match frontR (s.extract a s.size) with
    | .error e => .error e
    | .ok x => iter (walkR s k) x.2 (a + x.1)
theorem iter_len {f : Nat → Except Int Nat} {N : Nat} (hf : ∀ x y, x ≤ N → f x = .ok y → y ≤ N) : ∀ i x y, x ≤ N → iter f i x = .ok y → y ≤ N
  | 0, x, y, hx, h => by rw [iter, Except.ok.injEq] at h; omega
  | i + 1, x, y, hx, h => by
    rw [iter] at h
    split at h
    · cases h
    · rename_i z hz
      exact iter_len hf i z y (hf _ _ hx hz) h
theorem walkR_len (s : ByteArray) : ∀ k a y, a ≤ s.size → walkR s k a = .ok y → y ≤ s.size
  | 0, a, y, _, h => by cases h
  | k + 1, a, y, ha, h => by
    rw [walkR] at h
    split at h
    · cases h
    · rename_i x hx
      have := frontR_len (n := x.1) (p := x.2) hx
      have hz : (s.extract a s.size).size = s.size - a := by simp
      exact iter_len (walkR_len s k) _ _ _ (by omega) h
set_option maxRecDepth 10000 in
set_option maxHeartbeats 4000000 in
theorem walk_ok (M : Mem) (s : ByteArray) (hs : s.size < 4611686018427387904) : ∀ (k : Nat), k ≤ 16 → ∀ (L : HL) (a : Nat), a ≤ s.size → TrE Tryz.prog 137 [.string s, .int .i64 (a : Int), .int .i64 ((17 - k : Nat) : Int), fv 138] M L (walkK (walkR s k a) M L) := by
  intro k
  induction k with
  | zero =>
    intro _ L a ha
    refine TrE.intro 41 Tryz.func137 rfl rfl Tryz.call137 rfl ?_
    intro C hC hro
    repeat (first | refine zz ?_ | refine zx fun _ => ?_)
    refine run_cond rfl (fun h => ?_) (fun h => by cases h)
    repeat (first | refine zz ?_ | refine zx fun _ => ?_)
    refine runL_must rfl rfl rfl rfl (fun h => by cases h) (fun _ => ?_)
    exact runX_pan hC (fun _ h => h) ⟨rfl, rfl, rfl⟩
  | succ k ih =>
    intro hk L a ha
    refine TrE.intro 41 Tryz.func137 rfl rfl Tryz.call137 rfl ?_
    intro C hC hro
    repeat (first | refine zz ?_ | refine zx fun _ => ?_)
    refine run_cond rfl (fun h => ?_) (fun h => ?_)
    · exfalso
      have : (16 : Int) < ((17 - (k + 1) : Nat) : Int) := by simpa using h
      omega
    have hz : (s.extract a s.size).size = s.size - a := by simp
    repeat (first | refine zz ?_ | refine zx fun _ => ?_ | refine runL_q (qt_strLo tok rfl rfl rfl (fun _ => ha)) rfl rfl rfl ?_)
    refine runL_callE rfl (front_ok _ _ _ (by omega)) rfl rfl rfl ?_ ?_
    rotate_left
    · rintro ch _ _ ⟨rfl, rfl, hv⟩
      cases hf : frontR (s.extract a s.size) with
      | ok x => rw [hf] at hv; cases hv
      | error e =>
        rw [hf] at hv
        simp only [Ending.panicked.injEq] at hv
        subst hv
        exact runX_pan hC (fun _ h => h) ⟨rfl, rfl, by rw [walkR, hf]⟩
    rintro v _ _ ⟨rfl, rfl, hv⟩
    cases hf : frontR (s.extract a s.size) with
    | error e => rw [hf] at hv; cases hv
    | ok x =>
      rw [hf] at hv
      simp only [Ending.returned.injEq] at hv
      subst hv
      have hx := frontR_len (n := x.1) (p := x.2) hf
      have hw : walkR s (k + 1) a = iter (walkR s k) x.2 (a + x.1) := by rw [walkR, hf]
      have e1 : IntKind.i64.wrap ((a : Int) + (x.1 : Int)) = ((a + x.1 : Nat) : Int) := by
        rw [show (a : Int) + (x.1 : Int) = ((a + x.1 : Nat) : Int) by omega, wrap64_nat (by omega)]
      repeat (first | refine zz ?_ | refine zx fun _ => ?_)
      refine run_loopN (fun i σ1 M1 L1 => i ≤ x.2 ∧ ∃ y, y ≤ s.size ∧ iter (walkR s k) (x.2 - i) y = walkR s (k + 1) a ∧ σ1 = [(0, .string s), (1, .int .i64 (a : Int)), (2, .int .i64 ((17 - (k + 1) : Nat) : Int)), (3, fv 138), (11, .int .i64 (y : Int)), (25, .int .i64 (x.2 : Int)), (26, .int .i64 (i : Int))] ∧ M = M1 ∧ L = L1) x.2 [(0, .string s), (1, .int .i64 (a : Int)), (2, .int .i64 ((17 - (k + 1) : Nat) : Int)), (3, fv 138), (11, .int .i64 ((a + x.1 : Nat) : Int)), (25, .int .i64 (x.2 : Int)), (26, .int .i64 ((0 : Nat) : Int))] ?_ ⟨Nat.zero_le _, a + x.1, by omega, hw.symm, rfl, rfl, rfl⟩ (fun j _ _ _ h => h.1) ?_
      · exact ⟨rfl, rfl, rfl, rfl, by rw [← e1]; rfl, rfl, rfl, trivial⟩
      rintro i _ _ _ ⟨hi, y, hy, hit, rfl, rfl, rfl⟩ hnext
      repeat (first | refine zz ?_ | refine zx fun _ => ?_)
      refine run_cond rfl (fun h5 => ?_) (fun h5 => ?_)
      · have hik : i < x.2 := by simpa using h5
        rw [show x.2 - i = (x.2 - (i + 1)) + 1 by omega, iter] at hit
        repeat (first | refine zz ?_ | refine zx fun _ => ?_)
        refine runL_as 31 (.int .i64 ((17 - k : Nat) : Int)) rfl (by rw [wrap64_succ (by omega), show 17 - (k + 1) + 1 = 17 - k by omega]) ?_
        repeat (first | refine zz ?_ | refine zx fun _ => ?_)
        refine runL_callE rfl (ih (by omega) _ _ hy) rfl rfl rfl ?_ ?_
        rotate_left
        · rintro ch _ _ ⟨rfl, rfl, hv⟩
          cases hg : walkR s k y with
          | ok z => rw [hg] at hv; cases hv
          | error e =>
            rw [hg] at hv hit
            simp only [Ending.panicked.injEq] at hv
            subst hv
            exact runX_pan hC (fun _ h => h) ⟨rfl, rfl, by rw [← hit]⟩
        rintro v _ _ ⟨rfl, rfl, hv⟩
        cases hg : walkR s k y with
        | error e => rw [hg] at hv; cases hv
        | ok z =>
          rw [hg] at hv hit
          simp only [Ending.returned.injEq] at hv
          subst hv
          have hzz := walkR_len s k y z hy hg
          repeat (first | refine zz ?_ | refine zx fun _ => ?_)
          exact run_sub' (hnext _ _ _ ⟨hik, z, hzz, hit, rfl, rfl, rfl⟩) ⟨rfl, rfl, rfl, rfl, rfl, rfl, lk_succ rfl (by omega), trivial⟩
      · have hik : i = x.2 := by simp at h5; omega
        subst hik
        rw [Nat.sub_self, iter] at hit
        repeat (first | refine zz ?_ | refine zx fun _ => ?_ | (refine runL_op (st_callV rfl rfl (fun _ => tell_ok _ _ _ _ _)) rfl rfl rfl ?_; rintro _ _ _ ⟨rfl, rfl, rfl⟩))
        refine run_retX hro ?_
        exact runX_ret hC (rs := [.tmp 8]) rfl (resT rfl resN) (fun _ h => h) ⟨rfl, rfl, by rw [← hit]; rfl⟩
def checkR (s : ByteArray) : Int := if (readR (walkR s 16 0)).2 = 0 ∧ (readR (walkR s 16 0)).1 ≠ (s.size : Int) then 7 else (readR (walkR s 16 0)).2
theorem check_ok (M : Mem) (L : HL) (s : ByteArray) (hs : s.size < 4611686018427387904) : TrQ Tryz.prog 118 [.string s] M L (.int .i64 (checkR s)) := by
  refine Tr.intro 19 Tryz.func118 rfl rfl Tryz.call118 rfl ?_
  intro C hC hro
  repeat (first | refine zz ?_ | refine zx fun _ => ?_ | refine runL_q (qt_callF rfl (fun _ => read_ok _ _ s (walkR s 16 0) (fun L => walk_ok _ s hs 16 (by omega) L 0 (Nat.zero_le _)))) rfl rfl rfl ?_)
  refine run_cond rfl (fun h => ?_) (fun h => ?_)
  · have h1 : (readR (walkR s 16 0)).2 = 0 ∧ (readR (walkR s 16 0)).1 ≠ (s.size : Int) := by simpa using h
    repeat (first | refine zz ?_ | refine zx fun _ => ?_)
    exact run_ret hC (rs := [.tmp 2]) rfl (resT rfl resN) (fun _ h => h) ⟨by rw [checkR, if_pos h1]; rfl, rfl, rfl⟩
  · have h1 : ¬ ((readR (walkR s 16 0)).2 = 0 ∧ (readR (walkR s 16 0)).1 ≠ (s.size : Int)) := by simpa using h
    repeat (first | refine zz ?_ | refine zx fun _ => ?_)
    exact run_ret hC (rs := [.tmp 2]) rfl (resT rfl resN) (fun _ h => h) ⟨by rw [checkR, if_neg h1]; rfl, rfl, rfl⟩
end Go.Proofs.YtkjljcgbnikmkaaGreatDoor
namespace Go.Chi
section
variable {κ : Type} [DecidableEq κ]
theorem kvGet_set (a : κ) (v : Value) (clock : Nat) (b : κ) : ∀ es : KV κ, kvGet (kvSet es a v clock) b = if b = a then some v else kvGet es b
  | [] => by simp only [kvSet, kvGet]
  | x :: es => by
    simp only [kvSet]
    split
    · rename_i e
      subst e
      simp only [kvGet]
      split
      · rfl
      · rfl
    · rename_i e
      simp only [kvGet, kvGet_set a v clock b es]
      by_cases e2 : b = x.1
      · rw [if_pos e2, if_pos e2, if_neg (fun h => e (by rw [← h]; exact e2))]
      · rw [if_neg e2, if_neg e2]
variable {P : Program} {kt : TypeId} {enc : κ → Value} {T : TT} {ro : Option Nat} {σ : Env} {δ : Den} {cur : Path} {M : Mem} {L : HL} {d : Option Nat} {op : Op} {ty : TypeId} {pos : String} {aft : Array Edge} {g : Option (Nat × Bool)} {v : Value}
end
end Go.Chi
namespace Go.Chi
def bytesI (ns : List Int) : ByteArray := ns.foldl (fun r n => r.push (UInt8.ofNat n.toNat)) ByteArray.empty
section
variable {P : Program} {T : TT} {ro : Option Nat} {σ : Env} {δ : Den} {cur : Path} {M : Mem} {L : HL} {d : Option Nat} {ty : TypeId} {pos : String} {aft : Array Edge} {g : Option (Nat × Bool)} {v : Value}
theorem _root_.Go.Chi.Qt.as {o : Oper} {v' : Value} (h : Qt P ro o σ δ cur M L v) (e : v = v') : Qt P ro o σ δ cur M L v' := e ▸ h
theorem qt_bytesStr (hT : TOk P T) {s t e : TypeId} {x : Operand} {b n c : Nat} (ns : List Int) (hs' : und T s = some (.slice e)) (he : und T e = some (.int .u8)) (hu : und T t = some .string) (hx : ev σ δ cur x = some (.slice (some ⟨b, 0, none⟩) n c)) (hc : Cells M L b 0 (ns.map (Value.int .u8))) (hl : ns.length = n) :
    Qt P ro ⟨d, .convert s t x, ty, pos, aft, g⟩ σ δ cur M L (.string (bytesI ns)) :=
  qt_of_run (semAt_of (by intro c e; cases e)) fun a w hs hcur hp => by
    have h1 := run_loadCells (P := P) hp (ns.map (Value.int .u8)) [] (by simpa using hc)
    have h2 : (loadCells ⟨b, 0, none⟩ n).run P w = .ok (ns.map (Value.int .u8)).toArray w := by
      simp only [List.length_nil, List.nil_append, List.length_map, hl] at h1
      exact h1
    have h3 := run_bytesToString w ⟨b, 0, none⟩ n c ns h2
    have h4 := run_convert_bytes_string (P := P) w s t e (some ⟨b, 0, none⟩) n c (und_ok hT hs') (und_ok hT he) (und_ok hT hu)
    simp only [execOp, ev_sound hs hcur hx, Sem.run_bind, h4, h3, Result.andThen_ok, Sem.run_pure]
    rfl
theorem qt_concat {t u : TypeId} {x y : Operand} {a b : ByteArray} (hx : ev σ δ cur x = some (.string a)) (hy : ev σ δ cur y = some (.string b)) (hsz : a.size + b.size < 4611686018427387904) :
    Qt P ro ⟨d, .binOp .add t x y u, ty, pos, aft, g⟩ σ δ cur M L (.string (a ++ b)) :=
  qt_of_run (semAt_of (by intro c e; cases e)) fun act w hs hcur hp => by
    have hn : ¬ ((a.size + b.size : Nat) : Int) > IntKind.i64.max := by
      have : IntKind.i64.max = 9223372036854775807 := by decide
      omega
    simp only [execOp, eqGuard, binOp, ev_sound hs hcur hx, ev_sound hs hcur hy, Op.stringOp, hn, if_false]
    simp
end
end Go.Chi
namespace Go.Proofs.YtkjljcgbnikmkaaGreatDoor
open Go.Chi
set_option maxRecDepth 10000
theorem u8_nat {n : Nat} (h : n < 256) : IntKind.u8.wrap (n : Int) = n := by
  simp only [IntKind.wrap, IntKind.signed, IntKind.bits]
  simp
  omega
theorem bytesI_one (x : Int) : (bytesI [x]).size = 1 := rfl
theorem app_size (a b : ByteArray) : (a ++ b).size = a.size + b.size := ByteArray.size_append
def digN (v : Nat) : ByteArray := if v = 0 then ⟨#[]⟩ else digN (v / 256) ++ bytesI [((v % 256 : Nat) : Int)]
termination_by v
decreasing_by omega
theorem digN_zero : digN 0 = ⟨#[]⟩ := by rw [digN, if_pos rfl]
theorem digN_size : ∀ (k v : Nat), v < 256 ^ k → (digN v).size ≤ k
  | 0, v, h => by
    have : v = 0 := by simp at h; omega
    subst this
    rw [digN_zero]; exact Nat.le_refl _
  | k + 1, v, h => by
    by_cases h0 : v = 0
    · subst h0; rw [digN_zero]; exact Nat.zero_le _
    · rw [digN, if_neg h0, app_size, bytesI_one]
      have := digN_size k (v / 256) (by rw [Nat.pow_succ] at h; omega)
      omega
theorem digN_len {v : Nat} (h : v < 18446744073709551616) : (digN v).size ≤ 8 := digN_size 8 v (by simpa using h)
theorem digN_first : ∀ v : Nat, v ≠ 0 → ∃ b : UInt8, (digN v)[0]? = some b ∧ b ≠ 0 := by
  intro v
  induction v using Nat.strongRecOn with
  | _ v ih =>
    intro h0
    rw [digN, if_neg h0]
    by_cases h1 : v / 256 = 0
    · rw [h1, digN_zero]
      have hv : v % 256 = v := by omega
      rw [hv]
      refine ⟨UInt8.ofNat v, by simp [bytesI]; rfl, fun e => ?_⟩
      have := congrArg UInt8.toNat e
      simp at this
      omega
    · obtain ⟨b, hb, hb0⟩ := ih (v / 256) (by omega) h1
      refine ⟨b, ?_, hb0⟩
      have hlt : 0 < (digN (v / 256)).size := by
        apply Classical.byContradiction
        intro hn
        rw [getElem?_neg (digN (v / 256)) 0 hn] at hb
        cases hb
      rw [getElem?_pos (digN (v / 256)) 0 hlt] at hb
      rw [getElem?_pos (digN (v / 256) ++ bytesI [((v % 256 : Nat) : Int)]) 0 (by rw [app_size]; omega), ByteArray.getElem_append_left hlt]
      exact hb
set_option maxRecDepth 10000 in
set_option maxHeartbeats 4000000 in
theorem digits_ok (M : Mem) : ∀ v : Nat, v < 18446744073709551616 → ∀ L : HL, TrQ Tryz.prog 126 [.int .u64 (v : Int)] M L (.string (digN v)) := by
  intro v
  induction v using Nat.strongRecOn with
  | _ v ih =>
    intro hv L
    refine Tr.intro 14 Tryz.func126 rfl rfl Tryz.call126 rfl ?_
    intro C hC hro
    repeat (first | refine zz ?_ | refine zx fun _ => ?_)
    refine run_cond rfl (fun h => ?_) (fun h => ?_)
    · have h0 : v = 0 := by simp at h; omega
      subst h0
      repeat (first | refine zz ?_ | refine zx fun _ => ?_)
      exact run_ret hC (rs := [.tmp 2]) rfl (resT rfl resN) (fun _ h => h) ⟨by rw [digN_zero]; rfl, rfl, rfl⟩
    have h0 : v ≠ 0 := by simp at h; omega
    have hlen := digN_len (v := v / 256) (by omega)
    refine run_skip ?_
    refine run_seq ?_
    refine prn_start mixed ?_
    iterate 1 (first | refine dq ?_ | refine dgK ?_ | refine prn_gF rfl rfl rfl (by decide +kernel) rfl rfl rfl ?_ | refine dg ?_ | refine dz ?_ | refine dx fun _ => ?_)
    have e6 : Value.int .u64 (IntKind.u64.wrap ((v : Int).tdiv 256)) = .int .u64 ((v / 256 : Nat) : Int) := by rw [Int.tdiv_eq_ediv_of_nonneg (by omega), show (v : Int) / 256 = ((v / 256 : Nat) : Int) by omega, u64_nat (by omega)]
    have hd : digN v = digN (v / 256) ++ bytesI [((v % 256 : Nat) : Int)] := by rw [digN, if_neg h0]
    refine prn_q rfl ((qt_quo rfl rfl (fun _ => by decide)).as e6) (by decide +kernel) rfl rfl rfl ?_
    refine prn_q rfl (qt_callF rfl (fun _ => ih (v / 256) (by omega) (by omega) _)) (by decide +kernel) rfl rfl rfl ?_
    iterate 1 (first | refine dq ?_ | refine dgK ?_ | refine prn_gF rfl rfl rfl (by decide +kernel) rfl rfl rfl ?_ | refine dg ?_ | refine dz ?_ | refine dx fun _ => ?_)
    refine prn_q rfl (qt_rem rfl rfl (fun _ => by decide)) (by decide +kernel) rfl rfl rfl ?_
    refine pr_as 9 (.int .u64 ((v % 256 : Nat) : Int)) rfl (by rw [Int.tmod_eq_emod_of_nonneg (by omega)]; first | rfl | (congr 1; omega)) ?_
    iterate 1 (first | refine dq ?_ | refine dgK ?_ | refine prn_gF rfl rfl rfl (by decide +kernel) rfl rfl rfl ?_ | refine dg ?_ | refine dz ?_ | refine dx fun _ => ?_)
    refine pr_as 10 (.int .u8 ((v % 256 : Nat) : Int)) rfl (by rw [u8_nat (by omega)]) ?_
    refine prn_o1 rfl (st_buildSlice tok rfl rfl rfl rfl rfl rfl rfl) (by decide +kernel) rfl rfl rfl ?_
    rintro _ _ _ ⟨bs, rfl, rfl, rfl⟩
    refine ⟨by (repeat (first | exact trivial | refine And.intro (pend_q rfl rfl rfl (qt_pev tok rfl)) ?_ | refine And.intro (pend_q rfl rfl rfl (ql tok rfl)) ?_ | refine And.intro (pend_q rfl rfl rfl ((qt_quo rfl rfl (fun _ => by decide)).as e6)) ?_ | refine And.intro (pend_q rfl rfl rfl (qt_callF rfl (fun _ => ih (v / 256) (by omega) (by omega) _))) ?_)), ?_⟩
    refine prn_q rfl (qt_bytesStr tok [((v % 256 : Nat) : Int)] rfl rfl rfl rfl (cellsAll List.mem_cons_self) rfl) (by decide +kernel) rfl rfl rfl ?_
    refine prn_q rfl (qt_concat rfl rfl (by rw [bytesI_one]; omega)) (by decide +kernel) rfl rfl rfl ?_
    repeat (first | refine zz ?_ | refine zx fun _ => ?_ | refine dd ?_ | refine dz ?_ | refine dx fun _ => ?_)
    exact run_ret hC (rs := [.tmp 2]) rfl (resT rfl resN) (fun _ h => h.drop) ⟨by rw [hd]; rfl, rfl, rfl⟩
def numB (v : Nat) : ByteArray := if v < 248 then bytesI [IntKind.u8.wrap (v : Int)] else bytesI [IntKind.u8.wrap (IntKind.i64.wrap (247 + ((digN v).size : Int)))] ++ digN v
set_option maxRecDepth 10000 in
set_option maxHeartbeats 4000000 in
theorem num_ok (M : Mem) (L : HL) (v : Nat) (hv : v < 18446744073709551616) : TrQ Tryz.prog 113 [.int .u64 (v : Int)] M L (.string (numB v)) := by
  have hlen := digN_len hv
  refine Tr.intro 20 Tryz.func113 rfl rfl Tryz.call113 rfl ?_
  intro C hC hro
  repeat (first | refine zz ?_ | refine zx fun _ => ?_)
  refine run_cond rfl (fun h => ?_) (fun h => ?_)
  · have h0 : v < 248 := by simp at h; omega
    repeat (first | refine zz ?_ | refine zx fun _ => ?_ | refine runL_q (qt_bytesStr tok [IntKind.u8.wrap (v : Int)] rfl rfl rfl rfl (cellsAll List.mem_cons_self) rfl) rfl rfl rfl ?_)
    exact run_ret hC (rs := [.tmp 2]) rfl (resT rfl resN) (fun _ h => h.drop) ⟨by rw [numB, if_pos h0]; rfl, rfl, rfl⟩
  · have h0 : ¬ v < 248 := by simp at h; omega
    repeat (first | refine zz ?_ | refine zx fun _ => ?_ | refine runL_q (qt_callF rfl (fun _ => digits_ok _ v hv _)) rfl rfl rfl ?_ | refine runL_q (qt_bytesStr tok [IntKind.u8.wrap (IntKind.i64.wrap (247 + ((digN v).size : Int)))] rfl rfl rfl rfl (cellsAll List.mem_cons_self) rfl) rfl rfl rfl ?_ | refine runL_q (qt_concat rfl rfl (by rw [bytesI_one]; omega)) rfl rfl rfl ?_)
    exact run_ret hC (rs := [.tmp 2]) rfl (resT rfl resN) (fun _ h => h.drop) ⟨by rw [numB, if_neg h0]; rfl, rfl, rfl⟩
theorem numB_of {v n : Nat} {s : ByteArray} (h : numB v = s.extract 0 n) (hn : 2 ≤ n) (hs : n ≤ s.size) : 247 < v ∧ byte s 1 ≠ 0 := by
  have hsz := congrArg ByteArray.size h
  have hz : (s.extract 0 n).size = n := by simp; omega
  rw [hz] at hsz
  by_cases h0 : v < 248
  · rw [numB, if_pos h0, bytesI_one] at hsz
    omega
  · refine ⟨by omega, ?_⟩
    obtain ⟨b, hb, hb0⟩ := digN_first v (by omega)
    have hd : 0 < (digN v).size := by
      apply Classical.byContradiction
      intro hn
      rw [getElem?_neg (digN v) 0 hn] at hb
      cases hb
    rw [getElem?_pos (digN v) 0 hd, Option.some.injEq] at hb
    have h1 : (s.extract 0 n)[1]? = some b := by
      rw [← h, numB, if_neg h0, getElem?_pos (_ ++ digN v) 1 (by rw [app_size, bytesI_one]; omega), ByteArray.getElem_append_right (by rw [bytesI_one]; exact Nat.le_refl _)]
      simp only [bytesI_one, Nat.sub_self]
      rw [hb]
    have h2 : s[1]? = some b := by
      rw [getElem?_pos (s.extract 0 n) 1 (by omega)] at h1
      rw [getElem?_pos s 1 (by omega)]
      rw [← h1, ByteArray.getElem_extract]
    rw [byte, h2]
    intro e
    apply hb0
    have : b.toNat = 0 := by simpa using e
    exact UInt8.toNat_inj.1 this
end Go.Proofs.YtkjljcgbnikmkaaGreatDoor
namespace Go.Proofs.YtkjljcgbnikmkaaGreatDoor
open Go.Chi
set_option maxRecDepth 10000
def refV (s : ByteArray) : Nat → Int
  | 0 => 0
  | i + 1 => IntKind.u64.wrap (IntKind.u64.wrap (refV s i * 256) + IntKind.u64.wrap (byte s (i + 1)))
theorem u64_wrap (x : Int) : IntKind.u64.wrap x = x % 18446744073709551616 := by
  simp only [IntKind.wrap, IntKind.signed, IntKind.bits]
  simp
theorem or_add (x b : Int) (hb0 : 0 ≤ b) (hb : b < 256) : ior .u64 (ishl .u64 x 8) b = IntKind.u64.wrap (IntKind.u64.wrap (x * 256) + b) := by
  have e1 : ishl .u64 x 8 = IntKind.u64.wrap (x * 256) := by simp [ishl, IntKind.bits]
  rw [e1, u64_wrap (x * 256)]
  obtain ⟨q, hq⟩ : ∃ q : Nat, (x * 256) % 18446744073709551616 = ((2 ^ 8 * q : Nat) : Int) := ⟨(x % 72057594037927936).toNat, by omega⟩
  have hlt : (2 ^ 8 * q : Nat) < 18446744073709551616 := by omega
  obtain ⟨c, rfl⟩ : ∃ c : Nat, b = c := ⟨b.toNat, by omega⟩
  rw [hq, ior]
  congr 1
  have ho := Nat.two_pow_add_eq_or_of_lt (i := 8) (b := c) (by omega) q
  have h1 : (BitVec.ofInt 64 ((2 ^ 8 * q : Nat) : Int)).toNat = 2 ^ 8 * q := by
    rw [BitVec.toNat_ofInt]; omega
  have h2 : (BitVec.ofInt 64 (c : Int)).toNat = c := by
    rw [BitVec.toNat_ofInt]; omega
  show (((BitVec.ofInt 64 ((2 ^ 8 * q : Nat) : Int) ||| BitVec.ofInt 64 (c : Int)).toNat : Nat) : Int) = _
  rw [BitVec.toNat_or, h1, h2, ← ho]
  omega
theorem byte_rest (s : ByteArray) (i : Nat) : byte (rest1 s) i = byte s (i + 1) := by
  unfold byte rest1
  by_cases h : i + 1 < s.size
  · rw [getElem?_pos s _ h, getElem?_pos _ _ (by simp; omega), ByteArray.getElem_extract]
    simp [Nat.add_comm]
  · rw [getElem?_neg s _ h, getElem?_neg _ _ (by simp; omega)]
theorem refV_eq (s : ByteArray) : ∀ i, refV s i = numV (rest1 s) i
  | 0 => rfl
  | i + 1 => by
    have hb := byte_pos s (i + 1)
    have hw : IntKind.u64.wrap (byte s (i + 1)) = byte s (i + 1) := by rw [u64_wrap]; omega
    rw [refV, numV, byte_rest, hw, or_add _ _ hb.1 hb.2, refV_eq s i]
theorem refV_pos (s : ByteArray) (i : Nat) : 0 ≤ refV s i ∧ refV s i < 18446744073709551616 := by
  cases i with
  | zero => exact ⟨Int.le_refl _, show (0 : Int) < 18446744073709551616 by decide⟩
  | succ i => exact u64_pos .u64 rfl _
def refK (s : ByteArray) : Nat := (byte s 0 - 247).toNat
def refNum (s : ByteArray) : Int × Int × Int :=
  if s.size = 0 then (0, 0, 6) else
  if byte s 0 < 248 then (byte s 0, 1, 0) else
  if s.size < refK s + 1 then (0, 0, 6) else
  if numB (refV s (refK s)).toNat ≠ s.extract 0 (refK s + 1) then (0, 0, 7) else (refV s (refK s), ((refK s + 1 : Nat) : Int), 0)
theorem refNum_imp {s : ByteArray} (h : (refNum s).2.2 = 0) : numR s = refNum s := by
  have hb := byte_pos s 0
  unfold refNum at h ⊢
  split at h
  · cases h
  rename_i h0
  rw [if_neg h0]
  split at h
  · rename_i h1
    rw [numR, if_neg h0, if_pos (by omega), if_pos h1]
  rename_i h1
  rw [if_neg h1]
  split at h
  · cases h
  rename_i h2
  rw [if_neg h2]
  split at h
  · cases h
  rename_i h3
  rw [if_neg h3]
  have h3' : numB (refV s (refK s)).toNat = s.extract 0 (refK s + 1) := by simpa using h3
  have hk : (refK s : Int) = byte s 0 - 247 := by unfold refK; omega
  obtain ⟨h4, h5⟩ := numB_of h3' (by omega) (by omega)
  have hr := rest1_size (s := s)
  rw [numR, if_neg h0, if_neg (by omega), if_neg (by omega)]
  have hv := refV_eq s (refK s)
  have hz : (byte s 0 - 247).toNat = refK s := rfl
  rw [hz, ← hv, if_neg (by
    rintro (h6 | h6)
    · rw [byte_rest] at h6; exact h5 h6
    · omega)]
  congr 2
  omega
set_option maxRecDepth 10000 in
set_option maxHeartbeats 8000000 in
theorem refNum_ok (M : Mem) (L : HL) (s : ByteArray) : TrQ Tryz.prog 124 [.string s] M L (.tuple ⟨[.int .u64 (refNum s).1, .int .i64 (refNum s).2.1, .int .i64 (refNum s).2.2]⟩) := by
  refine Tr.intro 45 Tryz.func124 rfl rfl Tryz.call124 rfl ?_
  intro C hC hro
  repeat (first | refine zz ?_ | refine zx fun _ => ?_)
  refine run_cond rfl (fun h => ?_) (fun h => ?_)
  · repeat (first | refine zz ?_ | refine zx fun _ => ?_)
    exact run_ret hC (rs := [.tmp 2, .tmp 3, .tmp 4]) rfl (resT rfl (resT rfl (resT rfl resN))) (fun _ h => h) ⟨by rw [empty_beq, decide_eq_true_eq] at h; rw [refNum, if_pos h]; rfl, rfl, rfl⟩
  rw [empty_beq, decide_eq_false_iff_not] at h
  have hs : 0 < s.size := by omega
  obtain ⟨b0, hb0, hb0'⟩ := byte_at hs
  repeat (first | refine zz ?_ | refine zx fun _ => ?_ | refine runL_q (qt_strIndex (n := 0) tok rfl rfl rfl (fun _ => hb0)) rfl rfl rfl ?_)
  refine run_cond rfl (fun h1 => ?_) (fun h1 => ?_)
  · have h2 : byte s 0 < 248 := by rw [hb0']; simpa using h1
    repeat (first | refine zz ?_ | refine zx fun _ => ?_ | refine runL_q (qt_strIndex (n := 0) tok rfl rfl rfl (fun _ => hb0)) rfl rfl rfl ?_)
    refine run_ret hC (rs := [.tmp 2, .tmp 3, .tmp 4]) rfl (resT rfl (resT rfl (resT rfl resN))) (fun _ h => h) ⟨?_, rfl, rfl⟩
    rw [refNum, if_neg h, if_pos h2, hb0', u64_byte]
    rfl
  have h2 : ¬ byte s 0 < 248 := by rw [hb0']; simpa using h1
  have hlt := b0.toNat_lt
  obtain ⟨k, hk⟩ : ∃ k : Nat, k = b0.toNat - 247 := ⟨_, rfl⟩
  have hk1 : refK s = k := by unfold refK; rw [hb0']; omega
  have hkv : IntKind.i64.wrap (IntKind.i64.wrap (1 + IntKind.i64.wrap (b0.toNat : Int)) - 247) = ((k + 1 : Nat) : Int) := by
    rw [wrap64_nat (by omega), show (1 : Int) + (b0.toNat : Int) = ((1 + b0.toNat : Nat) : Int) by omega, wrap64_nat (by omega), show ((1 + b0.toNat : Nat) : Int) - 247 = ((k + 1 : Nat) : Int) by omega, wrap64_nat (by omega)]
  repeat (first | refine zz ?_ | refine zx fun _ => ?_ | refine runL_q (qt_strIndex (n := 0) tok rfl rfl rfl (fun _ => hb0)) rfl rfl rfl ?_)
  refine run_cond rfl (fun h3 => ?_) (fun h3 => ?_)
  · rw [hkv] at h3
    have h4 : s.size < refK s + 1 := by rw [hk1]; simp at h3; omega
    repeat (first | refine zz ?_ | refine zx fun _ => ?_)
    refine run_ret hC (rs := [.tmp 2, .tmp 3, .tmp 4]) rfl (resT rfl (resT rfl (resT rfl resN))) (fun _ h => h) ⟨?_, rfl, rfl⟩
    rw [refNum, if_neg h, if_neg h2, if_pos h4]
    rfl
  rw [hkv] at h3
  have h4 : ¬ s.size < refK s + 1 := by rw [hk1]; simp at h3; omega
  rw [hk1] at h4
  refine run_as 5 (.int .i64 ((k + 1 : Nat) : Int)) rfl (by rw [hkv]) ?_
  repeat (first | refine zz ?_ | refine zx fun _ => ?_)
  refine run_loopN (fun i σ1 M1 L1 => i ≤ k ∧ σ1 = [(7, .int .i64 ((i + 1 : Nat) : Int)), (6, .int .u64 (refV s i)), (5, .int .i64 ((k + 1 : Nat) : Int)), (0, .string s)] ∧ M = M1 ∧ L = L1) k [(7, .int .i64 ((0 + 1 : Nat) : Int)), (6, .int .u64 0), (5, .int .i64 ((k + 1 : Nat) : Int)), (0, .string s)] ?_ ⟨Nat.zero_le _, rfl, rfl, rfl⟩ (fun j _ _ _ h => h.1) ?_
  · exact ⟨rfl, rfl, rfl, rfl, trivial⟩
  rintro i _ _ _ ⟨hi, rfl, rfl, rfl⟩ hnext
  repeat (first | refine zz ?_ | refine zx fun _ => ?_)
  refine run_cond rfl (fun h5 => ?_) (fun h5 => ?_)
  · have hik : i < k := by simp at h5; omega
    obtain ⟨b, hb, hb'⟩ := byte_at (s := s) (i := i + 1) (by omega)
    repeat (first | refine zz ?_ | refine zx fun _ => ?_ | refine runL_q (qt_strIndex (n := i + 1) tok rfl rfl rfl (fun _ => hb)) rfl rfl rfl ?_)
    exact run_sub' (hnext _ _ _ ⟨hik, rfl, rfl, rfl⟩) ⟨lk_succ rfl (by omega), by rw [refV, hb']; rfl, rfl, rfl, trivial⟩
  · have hik : i = k := by simp at h5; omega
    subst hik
    have hvp := refV_pos s i
    obtain ⟨v, hv⟩ : ∃ v : Nat, refV s i = v := ⟨(refV s i).toNat, by omega⟩
    refine run_as 6 (.int .u64 (v : Int)) rfl (by rw [hv]) ?_
    repeat (first | refine zz ?_ | refine zx fun _ => ?_ | refine dd ?_ | refine dz ?_ | refine dx fun _ => ?_ | refine prn_q rfl (qt_callF rfl (fun _ => num_ok _ _ v (by omega))) (by decide +kernel) rfl rfl rfl ?_ | refine prn_q rfl (qt_strHi (n := i + 1) tok rfl rfl rfl (fun _ => by omega)) (by decide +kernel) rfl rfl rfl ?_)
    refine run_cond rfl (fun h6 => ?_) (fun h6 => ?_)
    · repeat (first | refine zz ?_ | refine zx fun _ => ?_)
      refine run_ret hC (rs := [.tmp 2, .tmp 3, .tmp 4]) rfl (resT rfl (resT rfl (resT rfl resN))) (fun _ h => h) ⟨?_, rfl, rfl⟩
      have h7 : numB (refV s (refK s)).toNat ≠ s.extract 0 (refK s + 1) := by rw [hk1, hv, Int.toNat_natCast]; rw [bytes_beq] at h6; simpa using h6
      rw [refNum, if_neg h, if_neg h2, if_neg (by rw [hk1]; exact h4), if_pos h7]
      rfl
    · repeat (first | refine zz ?_ | refine zx fun _ => ?_)
      refine run_ret hC (rs := [.tmp 2, .tmp 3, .tmp 4]) rfl (resT rfl (resT rfl (resT rfl resN))) (fun _ h => h) ⟨?_, rfl, rfl⟩
      have h7 : ¬ numB (refV s (refK s)).toNat ≠ s.extract 0 (refK s + 1) := by rw [hk1, hv, Int.toNat_natCast]; rw [bytes_beq] at h6; simpa using h6
      rw [refNum, if_neg h, if_neg h2, if_neg (by rw [hk1]; exact h4), if_neg h7, hk1, hv]
      rfl
def refText (s : ByteArray) (most : Nat) : ByteArray × Int × Int :=
  if (refNum s).2.2 ≠ 0 then (⟨#[]⟩, 0, (refNum s).2.2) else
  if (most : Int) < (refNum s).1 then (⟨#[]⟩, 0, 5) else
  if (s.size : Int) - (refNum s).2.1 < (refNum s).1 then (⟨#[]⟩, 0, 6) else
  (s.extract (refNum s).2.1.toNat ((refNum s).2.1 + (refNum s).1).toNat, (refNum s).2.1 + (refNum s).1, 0)
theorem refText_imp {s : ByteArray} {most : Nat} (h : (refText s most).2.2 = 0) : textR s most = refText s most := by
  have h0 : (refNum s).2.2 = 0 := by
    apply Classical.byContradiction
    intro h0
    rw [refText, if_pos h0] at h
    exact h0 h
  rw [textR, refNum_imp h0, refText]
set_option maxRecDepth 10000 in
set_option maxHeartbeats 8000000 in
theorem refText_ok (M : Mem) (L : HL) (s : ByteArray) (most : Nat) (hs : s.size < 4611686018427387904) (hm : most < 4611686018427387904) : TrQ Tryz.prog 101 [.string s, .int .i64 (most : Int)] M L (.tuple ⟨[.string (refText s most).1, .int .i64 (refText s most).2.1, .int .i64 (refText s most).2.2]⟩) := by
  refine Tr.intro 53 Tryz.func101 rfl rfl Tryz.call101 rfl ?_
  intro C hC hro
  repeat (first | refine zz ?_ | refine zx fun _ => ?_ | refine runL_q (qt_callF rfl (fun _ => refNum_ok _ _ s)) rfl rfl rfl ?_)
  refine run_cond rfl (fun h => ?_) (fun h => ?_)
  · have h0 : (refNum s).2.2 ≠ 0 := by simpa using h
    repeat (first | refine zz ?_ | refine zx fun _ => ?_)
    exact run_ret hC (rs := [.tmp 4, .tmp 5, .tmp 6]) rfl (resT rfl (resT rfl (resT rfl resN))) (fun _ h => h) ⟨by rw [refText, if_pos h0]; rfl, rfl, rfl⟩
  have h0 : (refNum s).2.2 = 0 := by simpa using h
  have himp := refNum_imp h0
  obtain ⟨n, hn, hn1, hn2⟩ := numR_len s (by rw [himp]; exact h0)
  have hv0 := numR_pos s
  rw [himp] at hn hv0
  have e1 : IntKind.u64.wrap (most : Int) = (most : Int) := u64_nat (by omega)
  repeat (first | refine zz ?_ | refine zx fun _ => ?_)
  refine run_cond rfl (fun h1 => ?_) (fun h1 => ?_)
  · rw [e1] at h1
    have h2 : (most : Int) < (refNum s).1 := by
      simp at h1
      omega
    repeat (first | refine zz ?_ | refine zx fun _ => ?_)
    exact run_ret hC (rs := [.tmp 4, .tmp 5, .tmp 6]) rfl (resT rfl (resT rfl (resT rfl resN))) (fun _ h => h) ⟨by rw [refText, if_neg (by simp [h0]), if_pos h2]; rfl, rfl, rfl⟩
  rw [e1] at h1
  have h2 : ¬ (most : Int) < (refNum s).1 := by
    simp at h1
    omega
  have e2 : IntKind.u64.wrap (IntKind.i64.wrap ((s.size : Int) - (refNum s).2.1)) = (s.size : Int) - (refNum s).2.1 := by
    rw [hn, show (s.size : Int) - (n : Int) = ((s.size - n : Nat) : Int) by omega, wrap64_nat (by omega), u64_nat (by omega)]
  obtain ⟨v, hv⟩ : ∃ v : Nat, (refNum s).1 = v := ⟨(refNum s).1.toNat, by omega⟩
  repeat (first | refine zz ?_ | refine zx fun _ => ?_)
  refine run_cond rfl (fun h3 => ?_) (fun h3 => ?_)
  · have h4 : (s.size : Int) - (refNum s).2.1 < (refNum s).1 := by
      have := of_decide_eq_true h3
      rwa [e2] at this
    repeat (first | refine zz ?_ | refine zx fun _ => ?_)
    exact run_ret hC (rs := [.tmp 4, .tmp 5, .tmp 6]) rfl (resT rfl (resT rfl (resT rfl resN))) (fun _ h => h) ⟨by rw [refText, if_neg (by simp [h0]), if_neg h2, if_pos h4]; rfl, rfl, rfl⟩
  have h4 : ¬ (s.size : Int) - (refNum s).2.1 < (refNum s).1 := by
    have := of_decide_eq_false h3
    rwa [e2] at this
  refine run_as 8 (.int .i64 (n : Int)) rfl (by rw [hn]) ?_
  refine run_as 7 (.int .u64 (v : Int)) rfl (by rw [hv]) ?_
  have e3 : IntKind.i64.wrap ((n : Int) + IntKind.i64.wrap (v : Int)) = ((n + v : Nat) : Int) := by
    rw [wrap64_nat (by omega), show (n : Int) + (v : Int) = ((n + v : Nat) : Int) by omega, wrap64_nat (by omega)]
  repeat (first | refine zz ?_ | refine zx fun _ => ?_)
  refine runL_as 47 (.int .i64 ((n + v : Nat) : Int)) rfl (by rw [e3]) ?_
  repeat (first | refine zz ?_ | refine zx fun _ => ?_ | refine runL_q (qt_strMid tok rfl rfl rfl rfl (fun _ => ⟨by omega, by omega⟩)) rfl rfl rfl ?_)
  refine run_ret hC (rs := [.tmp 4, .tmp 5, .tmp 6]) rfl (resT rfl (resT rfl (resT rfl resN))) (fun _ h => h) ⟨?_, rfl, rfl⟩
  rw [refText, if_neg (by simp [h0]), if_neg h2, if_neg h4, e3, hn, hv, show ((n : Int) + (v : Int)).toNat = n + v by omega, Int.toNat_natCast, show (n : Int) + (v : Int) = ((n + v : Nat) : Int) by omega]
  rfl
end Go.Proofs.YtkjljcgbnikmkaaGreatDoor
namespace Go.Chi
section
variable {P : Program} {T : TT} {ro : Option Nat} {σ : Env} {δ : Den} {cur : Path} {M : Mem} {L : HL} {d : Option Nat} {op : Op} {ty : TypeId} {pos : String} {aft : Array Edge} {g : Option (Nat × Bool)} {v : Value}
theorem qt_indexA (hT : TOk P T) {t : TypeId} {x y : Operand} {b off len : Nat} {k : IntKind} {n e s : Nat}
    (hx : ev σ δ cur x = some (.pointer (some ⟨b, off, none⟩))) (hy : ev σ δ cur y = some (.int k (n : Int))) (hu : und T t = some (.array len e)) (hi : sizeT T e = some s) (hb : Hy σ δ cur → n < len) :
    Qt P ro ⟨d, .indexAddr t x y, ty, pos, aft, g⟩ σ δ cur M L (.pointer (some ⟨b, off + n * s, none⟩)) :=
  qt_of_run (semAt_of (by intro c e; cases e)) fun a w hs hcur hp => by
    have h := hb (Hy_of hs hcur)
    simp [execOp, Instr.indexAt, Instr.sureAddr, ev_sound hs hcur hx, ev_sound hs hcur hy, asIntOf, run_und hT hu, run_sizeT hT hi, add_none, h]
theorem qt_sliceArr (hT : TOk P T) {t : TypeId} {x y : Operand} {b off len : Nat} {k : IntKind} {n e s : Nat}
    (hx : ev σ δ cur x = some (.pointer (some ⟨b, off, none⟩))) (hy : ev σ δ cur y = some (.int k (n : Int))) (hu : und T t = some (.array len e)) (hi : sizeT T e = some s) (hb : Hy σ δ cur → n < len) :
    Qt P ro ⟨d, .slice t x (some y) none none, ty, pos, aft, g⟩ σ δ cur M L (.slice (some ⟨b, off + n * s, none⟩) (len - n) (len - n)) :=
  qt_of_run (semAt_of (by intro c e; cases e)) fun a w hs hcur hp => by
    have h := hb (Hy_of hs hcur)
    have h1 : n ≤ len := by omega
    have h2 : ¬ len = n := by omega
    simp [execOp, Instr.sliceAt, Instr.sureAddr, Instr.sliceBounds, Instr.sliceBound, ev_sound hs hcur hx, ev_sound hs hcur hy, asIntOf, run_und hT hu, run_sizeT hT hi, add_none, h1, h2]
theorem qt_bytesStrO (hT : TOk P T) {s t e : TypeId} {x : Operand} {b o n c : Nat} (ns : List Int) (hs' : und T s = some (.slice e)) (he : und T e = some (.int .u8)) (hu : und T t = some .string) (hx : ev σ δ cur x = some (.slice (some ⟨b, o, none⟩) n c)) (hc : Cells M L b o (ns.map (Value.int .u8))) (hl : ns.length = n) :
    Qt P ro ⟨d, .convert s t x, ty, pos, aft, g⟩ σ δ cur M L (.string (bytesI ns)) :=
  qt_of_run (semAt_of (by intro c e; cases e)) fun a w hs hcur hp => by
    have h1 := run_loadCells (P := P) hp (ns.map (Value.int .u8)) [] (by simpa using hc)
    have h2 : (loadCells ⟨b, o, none⟩ n).run P w = .ok (ns.map (Value.int .u8)).toArray w := by
      simp only [List.length_nil, List.nil_append, List.length_map, hl] at h1
      exact h1
    have h3 := run_bytesToString w ⟨b, o, none⟩ n c ns h2
    have h4 := run_convert_bytes_string (P := P) w s t e (some ⟨b, o, none⟩) n c (und_ok hT hs') (und_ok hT he) (und_ok hT hu)
    simp only [execOp, ev_sound hs hcur hx, Sem.run_bind, h4, h3, Result.andThen_ok, Sem.run_pure]
    rfl
end
theorem bytesI_ext (ns : List Int) : ∀ r : ByteArray, (ns.foldl (fun r n => r.push (UInt8.ofNat n.toNat)) r).data.toList = r.data.toList ++ ns.map (fun n => UInt8.ofNat n.toNat) := by
  induction ns with
  | nil => intro r; simp
  | cons x ns ih => intro r; rw [List.foldl_cons, ih]; simp
theorem bytesI_list (ns : List Int) : (bytesI ns).data.toList = ns.map (fun n => UInt8.ofNat n.toNat) := by
  unfold bytesI
  rw [bytesI_ext]
  rfl
theorem bytesI_app (a b : List Int) : bytesI (a ++ b) = bytesI a ++ bytesI b := by
  apply ByteArray.ext
  apply Array.ext'
  simp [ByteArray.data_append, bytesI_list]
theorem setSeg_tail {cs : List Value} {k : Nat} (v : Value) (hk : k + 1 ≤ cs.length) : (setSeg cs k [v]).length = cs.length ∧ (setSeg cs k [v]).drop k = v :: cs.drop (k + 1) := by
  unfold setSeg
  constructor
  · simp; omega
  · rw [List.append_assoc, List.drop_append_of_le_length (by simp; omega), List.drop_eq_nil_of_le (by simp; omega)]
    simp
theorem Cells.tail {M : Mem} {L : HL} {b k : Nat} {cs xs : List Value} {et : TypeId} {fz : Nat × Nat} (hm : (b, Obj.cells ⟨cs⟩ et fz) ∈ L) (h : cs.drop k = xs) : Cells M L b k xs := by
  obtain ⟨cs', t', fz', hb, hc⟩ := cellsAll (M := M) hm
  refine ⟨cs', t', fz', hb, fun i v hv => hc (k + i) v ?_ |> fun h => by simpa using h⟩
  rw [← h, List.getElem?_drop] at hv
  exact hv
end Go.Chi
namespace Go.Proofs.YtkjljcgbnikmkaaGreatDoor
open Go.Chi
set_option maxRecDepth 10000
abbrev B32 := BitVec 32
def U (b : B32) : Int := (b.toNat : Int)
def wU (b : B32) : Value := .int .u32 (U b)
theorem u32_wrap (x : Int) : IntKind.u32.wrap x = x % 4294967296 := by
  simp only [IntKind.wrap, IntKind.signed, IntKind.bits]
  simp
theorem ofU (b : B32) : BitVec.ofInt 32 (U b) = b := by
  apply BitVec.eq_of_toNat_eq
  have := b.isLt
  unfold U
  rw [BitVec.toNat_ofInt]; omega
theorem wrapU (b : B32) : IntKind.u32.wrap (U b) = U b := by
  have := b.isLt
  rw [u32_wrap]; unfold U; omega
theorem u_and (a b : B32) : iand .u32 (U a) (U b) = U (a &&& b) := by
  show IntKind.u32.wrap (((BitVec.ofInt 32 (U a) &&& BitVec.ofInt 32 (U b)).toNat : Nat) : Int) = _
  rw [ofU, ofU]; exact wrapU _
theorem u_or (a b : B32) : ior .u32 (U a) (U b) = U (a ||| b) := by
  show IntKind.u32.wrap (((BitVec.ofInt 32 (U a) ||| BitVec.ofInt 32 (U b)).toNat : Nat) : Int) = _
  rw [ofU, ofU]; exact wrapU _
theorem u_xor (a b : B32) : ixor .u32 (U a) (U b) = U (a ^^^ b) := by
  show IntKind.u32.wrap (((BitVec.ofInt 32 (U a) ^^^ BitVec.ofInt 32 (U b)).toNat : Nat) : Int) = _
  rw [ofU, ofU]; exact wrapU _
theorem u_add (a b : B32) : IntKind.u32.wrap (U a + U b) = U (a + b) := by
  rw [u32_wrap]; unfold U; rw [BitVec.toNat_add]; omega
theorem u_shr (a : B32) {n : Nat} (h : n < 32) : ishr .u32 (U a) (n : Int) = U (a >>> n) := by
  have e : min ((n : Int).toNat) (IntKind.bits .u32) = n := by
    rw [Int.toNat_natCast]; exact Nat.min_eq_left (by show n ≤ 32; omega)
  unfold ishr; rw [e]; unfold U
  rw [BitVec.toNat_ushiftRight, Nat.shiftRight_eq_div_pow]
  have : ((2 : Int) ^ n) = ((2 ^ n : Nat) : Int) := by simp
  rw [this, Int.fdiv_eq_ediv_of_nonneg _ (Int.natCast_nonneg _)]
  exact (Int.natCast_ediv _ _).symm
theorem u_shl (a : B32) {n : Nat} (h : n < 32) : ishl .u32 (U a) (n : Int) = U (a <<< n) := by
  have e : min ((n : Int).toNat) (IntKind.bits .u32) = n := by
    rw [Int.toNat_natCast]; exact Nat.min_eq_left (by show n ≤ 32; omega)
  unfold ishl; rw [e, u32_wrap]; unfold U
  rw [BitVec.toNat_shiftLeft, Nat.shiftLeft_eq]
  have : ((2 : Int) ^ n) = ((2 ^ n : Nat) : Int) := by simp
  rw [this, ← Int.natCast_mul]
  omega
def rotr (x : B32) (n : Nat) : B32 := (x <<< (32 - n)) ||| (x >>> n)
theorem rot_fact : ∀ n : Fin 32, n.val ≠ 0 → iand .u64 (IntKind.u64.wrap (IntKind.i64.wrap (0 - (n.val : Int)))) 31 = ((32 - n.val : Nat) : Int) := by decide +kernel
theorem rotl_ok (M : Mem) (L : HL) (x : B32) (n : Nat) (h0 : n ≠ 0) (h : n < 32) : TrQ Tryz.prog 140 [wU x, .int .i64 (IntKind.i64.wrap (0 - (n : Int)))] M L (wU (rotr x n)) := by
  have hf := rot_fact ⟨n, h⟩ h0
  simp only at hf
  unfold wU
  refine Tr.intro 17 Tryz.func140 rfl rfl Tryz.call140 rfl ?_
  intro C hC hro
  repeat (first | refine zz ?_ | refine zx fun _ => ?_)
  refine runL_as 10 (.int .u64 ((32 - n : Nat) : Int)) rfl (congrArg (Value.int .u64) hf) ?_
  refine runL_as 5 (.int .u64 ((32 - n : Nat) : Int)) rfl (congrArg (Value.int .u64) hf) ?_
  refine runL_q (qt_shl rfl rfl (fun _ => by omega)) rfl rfl rfl ?_
  repeat (first | refine zz ?_ | refine zx fun _ => ?_)
  have e2 : IntKind.u64.wrap (32 - ((32 - n : Nat) : Int)) = (n : Int) := by rw [u64_wrap]; omega
  refine runL_as 14 (.int .u64 (n : Int)) rfl (congrArg (Value.int .u64) e2) ?_
  refine runL_q (qt_shr rfl rfl (fun _ => by omega)) rfl rfl rfl ?_
  repeat (first | refine zz ?_ | refine zx fun _ => ?_)
  refine run_ret hC (rs := [.tmp 4]) rfl (resT rfl resN) (fun _ h => h) ⟨?_, rfl, rfl⟩
  show Value.int .u32 (ior .u32 (ishl .u32 (U x) ((32 - n : Nat) : Int)) (ishr .u32 (U x) (n : Int))) = _
  rw [u_shl _ (by omega), u_shr _ h, u_or]
  rfl
theorem right_ok (M : Mem) (L : HL) (x : B32) (n : Nat) (h0 : n ≠ 0) (h : n < 32) : TrQ Tryz.prog 130 [wU x, .int .i64 (n : Int)] M L (wU (rotr x n)) := by
  unfold wU
  refine Tr.intro 9 Tryz.func130 rfl rfl Tryz.call130 rfl ?_
  intro C hC hro
  repeat (first | refine zz ?_ | refine zx fun _ => ?_ | refine runL_q (qt_callF rfl (fun _ => rotl_ok _ _ x n h0 h)) rfl rfl rfl ?_)
  exact run_ret hC (rs := [.tmp 4]) rfl (resT rfl resN) (fun _ h => h) ⟨rfl, rfl, rfl⟩
end Go.Proofs.YtkjljcgbnikmkaaGreatDoor
namespace Go.Chi
section
variable {P : Program} {T : TT} {ro : Option Nat} {σ : Env} {δ : Den} {cur : Path} {M : Mem} {L : HL} {d : Option Nat} {op : Op} {ty : TypeId} {pos : String} {aft : Array Edge} {g : Option (Nat × Bool)} {v : Value}
theorem st_makeSlice (hT : TOk P T) {t e by_ : Nat} {z : Value} {x y : Operand} {k k' : IntKind} (n : Nat) (ht : und T t = some (.slice e)) (hi : sizeT T e = some 1) (hz : zeroT T e = some z) (hzc : cellsL z = [z]) (hb : bytesT T e = some by_)
    (hx : ev σ δ cur x = some (.int k (n : Int))) (hy : ev σ δ cur y = some (.int k' (n : Int))) (hroom : by_ * n ≤ 281474976710656) (hn : n < 4611686018427387904) :
    St P ro ⟨d, .makeSlice t x y, ty, pos, aft, g⟩ σ δ cur M L (fun v' M' L' => ∃ b, v' = .slice (some ⟨b, 0, none⟩) n n ∧ M = M' ∧ L' = (b, .cells ⟨List.replicate n z⟩ e (0, 0)) :: L) := fun a w hs hcur hp => by
  obtain ⟨i, hi1, his⟩ := sizeT_ok hi
  obtain ⟨i2, hi2, hz2⟩ := zeroT_ok hz
  obtain ⟨i3, hi3, rfl⟩ := bytesT_ok hb
  rw [hi1] at hi2 hi3
  cases hi2
  cases hi3
  have hrun := run_make (P := P) w t e i z (und_ok hT ht) (hT.info _ _ hi1) hz2 k k' n n (by omega) (Int.le_refl _) (by
    have h : ((i.bytes * n : Nat) : Int) ≤ 281474976710656 := by omega
    rwa [Int.natCast_mul] at h) (by omega)
  have hcells : madeCells z.cells (n * i.size) = ⟨List.replicate n z⟩ := by
    have : z.cells = #[z] := by apply Array.ext'; rw [cellsL_eq]; exact hzc
    rw [his, Nat.mul_one, this]
    exact Array.ext' (toList_madeCells_one z n)
  simp only [Int.toNat_natCast, hcells] at hrun
  refine opWp_value (v := .slice (some ⟨w.heap.size, 0, none⟩) n n) (w' := w.alloc (.cells ⟨List.replicate n z⟩ e)) ?_ ⟨M, _, hp.push _, _, rfl, rfl, rfl⟩
  rw [semAt_of (by intro c e; cases e)]
  simp only [execOp, ev_sound hs hcur hx, ev_sound hs hcur hy, Sem.run_bind, hrun, Result.andThen_ok, Sem.run_pure]
theorem st_copy (hT : TOk P T) {x y : Operand} {t e b o dl dc b' o' sl sc : Nat} {cs news : List Value} {et : TypeId} {L' : HL} (hx : ev σ δ cur x = some (.slice (some ⟨b, o, none⟩) dl dc)) (hy : ev σ δ cur y = some (.slice (some ⟨b', o', none⟩) sl sc))
    (ht : und T t = some (.slice e)) (hi : sizeT T e = some 1) (hsrc : Cells M L b' o' news) (hlen : news.length = Nat.min sl dl) (hfit : o + news.length ≤ cs.length) (h1 : oneL news = true)
    (hu : Upd L b (.cells ⟨cs⟩ et (0, 0)) (.cells ⟨setSeg cs o news⟩ et (0, 0)) L') :
    St P ro ⟨d, .call ⟨.builtin .copy, #[x, y], #[t, t]⟩, ty, pos, aft, g⟩ σ δ cur M L (fun v' M' L'' => v' = .int .i64 (news.length : Int) ∧ M = M' ∧ L'' = L') := fun a w hse hcur hp => by
  obtain ⟨i, hi1, his⟩ := sizeT_ok hi
  have hes := ev_sound hse hcur hx
  have hey := ev_sound hse hcur hy
  have hrun := run_copy_row (P := P) w t t ty e b o dl dc ⟨b', o', none⟩ sl sc ⟨cs⟩ et news (und_ok hT ht) (by rw [hT.info _ _ hi1]; simp [his]) (hp.own _ hu.mem) hlen
    (fun j v hv => by
      have := hsrc.cell hp hv
      simpa [add_none] using this) (by simpa using hfit) (oneL_ok h1)
  refine opWp_value (v := .int .i64 (news.length : Int)) (w' := w.setRow b ⟨setSeg cs o news⟩) ?_ ⟨M, L', hp.setRow hu, rfl, rfl, rfl⟩
  rw [semAt_of (by intro c e; cases e)]
  simp only [execOp, resolve, Sem.run_bind, Sem.run_pure, Result.andThen_ok, invoke, builtin, List.map_toArray, List.map_cons, List.map_nil, hes, hey, hrun]
  rfl
end
section
variable {P : Program} {ro : Option Nat} {o : Oper} {σ : Env} {δ : Den} {cur : Path} {M : Mem} {L : HL}
theorem qt_dead {s : Nat} {b b' : Bool} {v : Value} (hl : lka σ δ cur s = some (.bool b')) (hs : (s, b) ∈ cur) (hne : b' ≠ b) : Qt P ro o σ δ cur M L v := fun a w h1 h2 h3 => by
  have e1 := lka_sound h1 h2 hl
  have e2 := h2 _ hs
  rw [e1] at e2
  injection e2 with e2
  injection e2 with e2
  exact absurd e2 hne
theorem St.frz {K K' : Value → Mem → HL → Prop} (h : St P ro o σ δ cur M L K) (hk : ∀ v M' L' w, Hp M' L' w → K v M' L' → ∃ M'' L'', Hp M'' L'' w ∧ K' v M'' L'') : St P ro o σ δ cur M L K' :=
  fun a w h1 h2 h3 => (h a w h1 h2 h3).mono fun _ _ ⟨_, _, h4, h5⟩ => hk _ _ _ _ h4 h5
theorem St.frz1 {V : Nat → Value} {ob : Obj} (h : St P ro o σ δ cur M L (fun v' M' L' => ∃ b, v' = V b ∧ M = M' ∧ L' = (b, ob) :: L)) : St P ro o σ δ cur M L (fun v' M' L' => M.le M' ∧ L = L' ∧ ∃ b, v' = V b ∧ M'.blk b = some ob) :=
  h.frz fun v M' L' w hw ⟨b, h1, h2, h3⟩ => by
    subst h2 h3
    obtain ⟨M2, h4, h5, h6⟩ := hw.freeze1
    exact ⟨M2, L, h6, h4, rfl, b, h1, h5⟩
end
theorem Tr.give {P : Program} {f : FuncId} {args : List Value} {M : Mem} {N L : HL} {K : Value → Mem → HL → Prop} (hc : ∀ w, (callFunc f ⟨args⟩).run P w = .ok (.enter f ⟨args⟩) w)
    (h : ∀ M', M.le M' → (∀ b o, (b, o) ∈ N → M'.blk b = some o) → Tr P f args M' L K) : Tr P f args M (N ++ L) K := by
  refine ⟨hc, fun w hw => ?_⟩
  have key : ∀ (N : HL) (M : Mem), Hp M (N ++ L) w → ∃ M', M.le M' ∧ (∀ b o, (b, o) ∈ N → M'.blk b = some o) ∧ Hp M' L w := by
    intro N
    induction N with
    | nil => exact fun M h => ⟨M, Mem.le_refl _, (fun b o h => by cases h), h⟩
    | cons x N ih =>
      intro M h
      obtain ⟨M1, h1, h2, h3⟩ := Hp.freeze1 (b := x.1) (o := x.2) h
      obtain ⟨M2, h4, h5, h6⟩ := ih M1 h3
      exact ⟨M2, Mem.le_trans h1 h4, fun b o hm => by
        rcases List.mem_cons.1 hm with e | hm
        · cases e; exact h4.blk _ _ h2
        · exact h5 b o hm, h6⟩
  obtain ⟨M1, h1, h2, h3⟩ := key N M hw
  exact (h M1 h1 h2).2 w h3
section
variable {P : Program} {C : Cx} {n : Nat} {k : List Item} {ds : List Deferred} {σ : Env} {δ : Den} {M : Mem} {L : HL} {ops : Array Oper} {X : List Nat}
end
end Go.Chi
namespace Go.Chi
def fc {α : Type} (f : Nat → α) (n : Nat) : List α := (List.range n).map f
theorem fc_len {α : Type} (f : Nat → α) (n : Nat) : (fc f n).length = n := by simp [fc]
theorem fc_get {α : Type} {f : Nat → α} {n j : Nat} (h : j < n) : (fc f n)[j]? = some (f j) := by simp [fc, h]
theorem fc_ext {α : Type} {f g : Nat → α} {n : Nat} (h : ∀ i, i < n → f i = g i) : fc f n = fc g n := by
  unfold fc
  apply List.map_congr_left
  intro i hi
  exact h i (List.mem_range.1 hi)
def fput {α : Type} (f : Nat → α) (j : Nat) (v : α) : Nat → α := fun x => if x = j then v else f x
theorem fput_same {α : Type} (f : Nat → α) (j : Nat) (v : α) : fput f j v j = v := if_pos rfl
theorem fput_ne {α : Type} (f : Nat → α) {j x : Nat} (v : α) (h : x ≠ j) : fput f j v x = f x := if_neg h
theorem fc_set {α : Type} {f : Nat → α} {n j : Nat} (v : α) : (fc f n).set j v = fc (fput f j v) n := by
  apply List.ext_getElem?
  intro i
  by_cases hi : i < n
  · rw [fc_get hi, List.getElem?_set, fc_get hi, fc_len]
    by_cases e : j = i
    · subst e; simp [fput_same, hi]
    · rw [if_neg e, fput_ne _ _ (fun x => e x.symm)]
  · rw [List.getElem?_eq_none (by rw [List.length_set, fc_len]; omega), List.getElem?_eq_none (by rw [fc_len]; omega)]
theorem setSeg_one {cs : List Value} {j : Nat} {v : Value} (h : j < cs.length) : setSeg cs j [v] = cs.set j v := by
  unfold setSeg
  rw [List.set_eq_take_append_cons_drop, if_pos h]
  simp
theorem fc_put {f : Nat → Value} {n j : Nat} (v : Value) (h : j < n) : setE (fc f n) j [v] = some (fc (fput f j v) n) := by
  rw [setE_of (by rw [fc_len, List.length_singleton]; omega), setSeg_one (by rw [fc_len]; exact h), fc_set]
theorem ldE_at {T : TT} {t : TypeId} {cs : List Value} {off : Nat} {v : Value} (ha : aggT T t = some false) (hv : cs[off]? = some v) : ldE T t cs off = some v := by
  unfold ldE partL
  rw [ha]
  exact hv
section
variable {P : Program} {T : TT} {ro : Option Nat} {σ : Env} {δ : Den} {cur : Path} {M : Mem} {L : HL} {d : Option Nat} {op : Op} {ty : TypeId} {pos : String} {aft : Array Edge} {g : Option (Nat × Bool)} {v : Value}
theorem qt_indexC (hT : TOk P T) {t : TypeId} {x y : Operand} {b off len : Nat} {k : IntKind} {z : Int} {e s : Nat}
    (hx : ev σ δ cur x = some (.pointer (some ⟨b, off, none⟩))) (hy : ev σ δ cur y = some (.int k z)) (hu : und T t = some (.array len e)) (hi : sizeT T e = some s) (hb : Hy σ δ cur → 0 ≤ z ∧ z < len) :
    Qt P ro ⟨d, .indexAddr t x y, ty, pos, aft, g⟩ σ δ cur M L (.pointer (some ⟨b, off + z.toNat * s, none⟩)) :=
  qt_of_run (semAt_of (by intro c e; cases e)) fun a w hs hcur hp => by
    have h := hb (Hy_of hs hcur)
    simp [execOp, Instr.indexAt, Instr.sureAddr, ev_sound hs hcur hx, ev_sound hs hcur hy, asIntOf, run_und hT hu, run_sizeT hT hi, add_none, h]
theorem qt_sliceArr2 (hT : TOk P T) {t : TypeId} {x y z : Operand} {b off len : Nat} {k k' : IntKind} {n m e s : Nat}
    (hx : ev σ δ cur x = some (.pointer (some ⟨b, off, none⟩))) (hy : ev σ δ cur y = some (.int k (n : Int))) (hz : ev σ δ cur z = some (.int k' (m : Int))) (hu : und T t = some (.array len e)) (hi : sizeT T e = some s) (hb : Hy σ δ cur → n < m ∧ m ≤ len) :
    Qt P ro ⟨d, .slice t x (some y) (some z) none, ty, pos, aft, g⟩ σ δ cur M L (.slice (some ⟨b, off + n * s, none⟩) (m - n) (len - n)) :=
  qt_of_run (semAt_of (by intro c e; cases e)) fun a w hs hcur hp => by
    have h := hb (Hy_of hs hcur)
    have h1 : n ≤ m := by omega
    have h2 : ¬ len = n := by omega
    simp [execOp, Instr.sliceAt, Instr.sureAddr, Instr.sliceBounds, Instr.sliceBound, ev_sound hs hcur hx, ev_sound hs hcur hy, ev_sound hs hcur hz, asIntOf, run_und hT hu, run_sizeT hT hi, add_none, h.2, h1, h2]
theorem qt_sliceAll (hT : TOk P T) {t : TypeId} {x : Operand} {b off len : Nat} {e s : Nat}
    (hx : ev σ δ cur x = some (.pointer (some ⟨b, off, none⟩))) (hu : und T t = some (.array len e)) (hi : sizeT T e = some s) :
    Qt P ro ⟨d, .slice t x none none none, ty, pos, aft, g⟩ σ δ cur M L (.slice (some ⟨b, off, none⟩) len len) :=
  qt_of_run (semAt_of (by intro c e; cases e)) fun a w hs hcur hp => by
    simp [execOp, Instr.sliceAt, Instr.sureAddr, Instr.sliceBounds, ev_sound hs hcur hx, run_und hT hu, run_sizeT hT hi, add_none]
theorem qt_indexV (hT : TOk P T) {t : TypeId} {x y : Operand} {cs : Array Value} {len : Nat} {k : IntKind} {n e : Nat}
    (hx : ev σ δ cur x = some (.agg cs)) (hy : ev σ δ cur y = some (.int k (n : Int))) (hu : und T t = some (.array len e)) (hi : sizeT T e = some 1) (hv : Hy σ δ cur → n < len ∧ partL T e cs.toList n = some v) :
    Qt P ro ⟨d, .index t x y, ty, pos, aft, g⟩ σ δ cur M L v :=
  qt_of_run (semAt_of (by intro c e; cases e)) fun a w hs hcur hp => by
    have h := hv (Hy_of hs hcur)
    simp [execOp, Instr.index, ev_sound hs hcur hx, ev_sound hs hcur hy, asIntOf, run_und hT hu, run_sizeT hT hi, h.1, run_part hT h.2]
theorem qt_slice3 (hT : TOk P T) {t : TypeId} {x y z : Operand} {a : Option Addr} {len cap n e s : Nat} {k k' : IntKind}
    (hx : ev σ δ cur x = some (.slice a len cap)) (hy : ev σ δ cur y = some (.int k (n : Int))) (hz : ev σ δ cur z = some (.int k' (n : Int))) (hu : und T t = some (.slice e)) (hi : sizeT T e = some s) (hb : Hy σ δ cur → n ≤ cap) :
    Qt P ro ⟨d, .slice t x none (some y) (some z), ty, pos, aft, g⟩ σ δ cur M L (.slice (subA s a n 0) n n) :=
  qt_of_run (semAt_of (by intro c e; cases e)) fun act w hs hcur hp => by
    have h := hb (Hy_of hs hcur)
    simp [execOp, Instr.sliceAt, Instr.slice, Instr.sliceBounds, Instr.sliceBound, ev_sound hs hcur hx, ev_sound hs hcur hy, ev_sound hs hcur hz, asIntOf, run_und hT hu, run_sizeT hT hi, h, subA]
def bC (l : List UInt8) : List Value := l.map fun b => .int .u8 (b.toNat : Int)
theorem bC_len (l : List UInt8) : (bC l).length = l.length := by simp [bC]
theorem bC_one (l : List UInt8) : oneL (bC l) = true := by
  unfold bC
  induction l with
  | nil => rfl
  | cons b l ih => exact ih
theorem st_copyStr (hT : TOk P T) {x y : Operand} {t t' e b o dl dc : Nat} {cs : List Value} {s : ByteArray} {et : TypeId} {L' : HL} (hx : ev σ δ cur x = some (.slice (some ⟨b, o, none⟩) dl dc)) (hy : ev σ δ cur y = some (.string s))
    (ht : und T t = some (.slice e)) (hi : sizeT T e = some 1) (hfit : o + min s.size dl ≤ cs.length)
    (hu : Upd L b (.cells ⟨cs⟩ et (0, 0)) (.cells ⟨setSeg cs o (bC (s.data.toList.take (min s.size dl)))⟩ et (0, 0)) L') :
    St P ro ⟨d, .call ⟨.builtin .copy, #[x, y], #[t, t']⟩, ty, pos, aft, g⟩ σ δ cur M L (fun v' M' L'' => v' = .int .i64 ((min s.size dl : Nat) : Int) ∧ M = M' ∧ L'' = L') := fun a w hse hcur hp => by
  obtain ⟨i, hi1, his⟩ := sizeT_ok hi
  have hes := ev_sound hse hcur hx
  have hey := ev_sound hse hcur hy
  have hlen : (bC (s.data.toList.take (min s.size dl))).length = min s.size dl := by
    rw [bC_len, List.length_take, Array.length_toList]
    show min (min s.size dl) s.size = _
    omega
  have hst := run_storeCells_at P b o et (bC (s.data.toList.take (min s.size dl))) 0 ⟨cs⟩ w (hp.own _ hu.mem) (by rw [hlen]; simpa using hfit) (oneL_ok (bC_one _))
  have htk : List.take (min s.size dl) (List.map (fun b : UInt8 => Value.int IntKind.u8 (b.toNat : Int)) s.data.toList) = bC (s.data.toList.take (min s.size dl)) := by
    unfold bC; rw [List.map_take]
  have hrun : (Builtin.copy_ #[t, t'] ty #[.slice (some ⟨b, o, none⟩) dl dc, .string s]).run P w = .ok (goInt ((min s.size dl : Nat) : Int)) (w.setRow b ⟨setSeg cs o (bC (s.data.toList.take (min s.size dl)))⟩) := by
    have hmin : Nat.min s.size dl = min s.size dl := rfl
    simp [Builtin.copy_, run_underlying (und_ok hT ht), Builtin.lenOf, Builtin.firstCells, sizeOf, typeInfo, hT.info _ _ hi1, hmin]
    rw [htk, hst]
    simp [Result.andThen, setSeg, hlen]
  refine opWp_value (v := .int .i64 ((min s.size dl : Nat) : Int)) (w' := w.setRow b ⟨setSeg cs o (bC (s.data.toList.take (min s.size dl)))⟩) ?_ ⟨M, L', hp.setRow hu, rfl, rfl, rfl⟩
  rw [semAt_of (by intro c e; cases e)]
  simp only [execOp, resolve, Sem.run_bind, Sem.run_pure, Result.andThen_ok, invoke, builtin, List.map_toArray, List.map_cons, List.map_nil, hes, hey, hrun]
  rfl
theorem qt_buildArr (hT : TOk P T) {t e len sz : Nat} {z : Value} {parts : Array (Nat × Operand)} {ps : List (Nat × Value)} (ht : und T t = some (.array len e)) (hi : sizeT T e = some sz) (hz : zeroT T t = some z)
    (hx : evParts σ δ cur parts.toList = some ps) (hseq : seqParts sz 0 ps = true) (hl : Nat.beq (cellsL z).length (ps.length * sz) = true) :
    Qt P ro ⟨d, .build t parts, ty, pos, aft, g⟩ σ δ cur M L (.agg ⟨flatParts ps⟩) :=
  qt_of_run (semAt_of (by intro c e; cases e)) fun a w hs hcur hp => by
    have hl := Nat.eq_of_beq_eq_true hl
    have hparts : (parts.map fun x => (x.1, a.eval x.2)).toList = ps := by simpa using evParts_ok hs hcur hx
    have h1 := (fill_seq sz ps 0 (cellsL z) hseq (by rw [Nat.zero_add]; omega)).1
    simp only [Nat.zero_mul, List.take_zero, List.nil_append, Nat.zero_add] at h1
    rw [List.drop_eq_nil_of_le (by omega), List.append_nil] at h1
    simp only [execOp, Instr.build, Sem.run_bind, run_zeroT hT hz, Result.andThen_ok, Sem.run_pure, run_und hT ht, run_sizeT hT hi, hparts, cellsL_eq, h1]
theorem st_makeRoom (hT : TOk P T) {t e by_ : Nat} {z : Value} {x y : Operand} {k k' : IntKind} (n : Nat) (ht : und T t = some (.slice e)) (hi : sizeT T e = some 1) (hz : zeroT T e = some z) (hzc : cellsL z = [z]) (hb : bytesT T e = some by_)
    (hx : ev σ δ cur x = some (.int k 0)) (hy : ev σ δ cur y = some (.int k' (n : Int))) (hroom : by_ * n ≤ 281474976710656) (hn : n < 4611686018427387904) :
    St P ro ⟨d, .makeSlice t x y, ty, pos, aft, g⟩ σ δ cur M L (fun v' M' L' => ∃ N, M = M' ∧ L' = N ++ L ∧ OS e 1 v' 0 [] N) := fun a w hs hcur hp => by
  obtain ⟨i, hi1, his⟩ := sizeT_ok hi
  obtain ⟨i2, hi2, hz2⟩ := zeroT_ok hz
  obtain ⟨i3, hi3, rfl⟩ := bytesT_ok hb
  rw [hi1] at hi2 hi3
  cases hi2
  cases hi3
  have hrun := run_make (P := P) w t e i z (und_ok hT ht) (hT.info _ _ hi1) hz2 k k' 0 n (by omega) (by omega) (by
    have h : ((i.bytes * n : Nat) : Int) ≤ 281474976710656 := by omega
    rwa [Int.natCast_mul] at h) (by omega)
  have hcells : madeCells z.cells (n * i.size) = ⟨List.replicate n z⟩ := by
    have : z.cells = #[z] := by apply Array.ext'; rw [cellsL_eq]; exact hzc
    rw [his, Nat.mul_one, this]
    exact Array.ext' (toList_madeCells_one z n)
  simp only [Int.toNat_natCast, hcells] at hrun
  refine opWp_value (v := .slice (some ⟨w.heap.size, 0, none⟩) 0 n) (w' := w.alloc (.cells ⟨List.replicate n z⟩ e)) ?_ ⟨M, _, hp.push _, [(w.heap.size, .cells ⟨List.replicate n z⟩ e (0, 0))], rfl, rfl, .inr ⟨_, n, _, rfl, rfl, Nat.zero_le _, by simp, by simp⟩⟩
  rw [semAt_of (by intro c e; cases e)]
  simp only [execOp, ev_sound hs hcur hx, ev_sound hs hcur hy, Sem.run_bind, hrun, Result.andThen_ok, Sem.run_pure]
  rfl
end
end Go.Chi
namespace Go.Proofs.YtkjljcgbnikmkaaGreatDoor
open Go.Chi
set_option maxRecDepth 10000
structure S8 where
  a : B32
  b : B32
  c : B32
  d : B32
  e : B32
  f : B32
  g : B32
  h : B32
def S8.cells (s : S8) : List Value := [wU s.a, wU s.b, wU s.c, wU s.d, wU s.e, wU s.f, wU s.g, wU s.h]
def S8.add (s t : S8) : S8 := ⟨s.a + t.a, s.b + t.b, s.c + t.c, s.d + t.d, s.e + t.e, s.f + t.f, s.g + t.g, s.h + t.h⟩
def sg0 (x : B32) : B32 := (rotr x 7 ^^^ rotr x 18) ^^^ (x >>> 3)
def sg1 (y : B32) : B32 := (rotr y 17 ^^^ rotr y 19) ^^^ (y >>> 10)
def bs1 (e : B32) : B32 := (rotr e 6 ^^^ rotr e 11) ^^^ rotr e 25
def bs0 (a : B32) : B32 := (rotr a 2 ^^^ rotr a 13) ^^^ rotr a 22
def one8 (k w : B32) (s : S8) : B32 := (((s.h + bs1 s.e) + (s.g ^^^ (s.e &&& (s.f ^^^ s.g)))) + k) + w
def two8 (s : S8) : B32 := bs0 s.a + ((s.a &&& (s.b ||| s.c)) ||| (s.b &&& s.c))
def rnd (k w : B32) (s : S8) : S8 := ⟨one8 k w s + two8 s, s.a, s.b, s.c, s.d + one8 k w s, s.e, s.f, s.g⟩
def rnds (K W : Nat → B32) : Nat → S8 → S8
  | 0, s => s
  | t + 1, s => rnd (K t) (W t) (rnds K W t s)
def Wd (x : Nat → B32) (t : Nat) : B32 := if t < 16 then x t else Wd x (t - 16) + ((sg0 (Wd x (t - 15)) + Wd x (t - 7)) + sg1 (Wd x (t - 2)))
termination_by t
decreasing_by all_goals omega
def bB (c : UInt8) : B32 := BitVec.ofNat 32 c.toNat
def wrdN (m : Nat → UInt8) (t : Nat) : Nat → B32
  | 0 => 0
  | i + 1 => (wrdN m t i <<< 8) ||| bB (m (4 * t + i))
def wrd (m : Nat → UInt8) (t : Nat) : B32 := wrdN m t 4
def kL : List Nat := [1116352408, 1899447441, 3049323471, 3921009573, 961987163, 1508970993, 2453635748, 2870763221, 3624381080, 310598401, 607225278, 1426881987, 1925078388, 2162078206, 2614888103, 3248222580, 3835390401, 4022224774, 264347078, 604807628, 770255983, 1249150122, 1555081692, 1996064986, 2554220882, 2821834349, 2952996808, 3210313671, 3336571891, 3584528711, 113926993, 338241895, 666307205, 773529912, 1294757372, 1396182291, 1695183700, 1986661051, 2177026350, 2456956037, 2730485921, 2820302411, 3259730800, 3345764771, 3516065817, 3600352804, 4094571909, 275423344, 430227734, 506948616, 659060556, 883997877, 958139571, 1322822218, 1537002063, 1747873779, 1955562222, 2024104815, 2227730452, 2361852424, 2428436474, 2756734187, 3204031479, 3329325298]
def kT (t : Nat) : B32 := BitVec.ofNat 32 (kL.getD t 0)
def takeS (s : S8) (m : Nat → UInt8) : S8 := s.add (rnds kT (Wd (wrd m)) 64 s)
def KM (M : Mem) : Prop := Cells M [] 0 0 (fc (fun t => wU (kT t)) 64)
theorem KM.le {M M' : Mem} (hm : M.le M') (h : KM M) : KM M' := Cells.le hm h
def wB (b : UInt8) : Value := .int .u8 (b.toNat : Int)
def shC (s : S8) (m : Nat → UInt8) (n : Nat) : List Value := s.cells ++ (fc (fun i => wB (m i)) 64 ++ [.int .i64 (n : Int)])
abbrev shB (b : Nat) (s : S8) (m : Nat → UInt8) (n : Nat) : Nat × Obj := (b, .cells ⟨shC s m n⟩ 157 (0, 0))
theorem sh_len (s : S8) (m : Nat → UInt8) (n : Nat) : (shC s m n).length = 73 := by simp [shC, S8.cells, fc]
theorem sh_wait (s : S8) (m : Nat → UInt8) (n : Nat) {o i : Nat} (ho : o = 8 + i) (hi : i < 64) : (shC s m n)[o]? = some (wB (m i)) := by
  subst ho
  unfold shC
  rw [List.getElem?_append_right (by simp [S8.cells]), List.getElem?_append_left (by rw [fc_len]; simp [S8.cells]; omega)]
  have : 8 + i - s.cells.length = i := by simp [S8.cells]
  rw [this, fc_get hi]
theorem sh_n (s : S8) (m : Nat → UInt8) (n : Nat) : (shC s m n)[72]? = some (.int .i64 (n : Int)) := by
  unfold shC
  rw [List.getElem?_append_right (by simp [S8.cells]), List.getElem?_append_right (by rw [fc_len]; simp [S8.cells])]
  simp [S8.cells, fc_len]
def wC (f : Nat → B32) : List Value := fc (fun i => wU (f i)) 16
theorem wC_get {f : Nat → B32} {j : Nat} (h : j < 16) : ldE tt 153 (wC f) (0 + j * 1) = some (wU (f j)) := ldE_at rfl (by rw [Nat.zero_add, Nat.mul_one]; exact fc_get h)
theorem wC_put {f : Nat → B32} {j : Nat} {z : Int} (w : B32) (h : j < 16) (hz : z = U w) : setE (wC f) (0 + j * 1) (cellsL (.int .u32 z)) = some (wC (fput f j w)) := by
  subst hz
  rw [Nat.zero_add, Nat.mul_one]
  refine (fc_put (wU w) h).trans ?_
  unfold wC
  congr 1
  exact fc_ext fun i _ => by
    by_cases e : i = j
    · subst e; rw [fput_same, fput_same]
    · rw [fput_ne _ _ e, fput_ne _ _ e]
theorem u_shr3 (x : B32) : ishr .u32 (U x) 3 = U (x >>> 3) := u_shr x (n := 3) (by decide)
theorem u_shr10 (x : B32) : ishr .u32 (U x) 10 = U (x >>> 10) := u_shr x (n := 10) (by decide)
theorem u_byte (x : B32) (c : UInt8) : ior .u32 (ishl .u32 (U x) 8) (IntKind.u32.wrap (c.toNat : Int)) = U ((x <<< 8) ||| bB c) := by
  have h1 : ishl .u32 (U x) 8 = U (x <<< 8) := u_shl x (n := 8) (by decide)
  have h2 : IntKind.u32.wrap (c.toNat : Int) = U (bB c) := by
    have := c.toNat_lt
    rw [u32_wrap]; unfold U bB
    rw [BitVec.toNat_ofNat]; omega
  rw [h1, h2, u_or]
theorem tm16 (n : Nat) : ((n : Int)).tmod 16 = ((n % 16 : Nat) : Int) := by
  rw [Int.tmod_eq_emod_of_nonneg (by omega)]; omega
theorem tm16w (n c : Nat) (h : n + c < 1000) : (IntKind.i64.wrap ((n : Int) + (c : Int))).tmod 16 = (((n + c) % 16 : Nat) : Int) := by
  have : (n : Int) + (c : Int) = ((n + c : Nat) : Int) := by omega
  rw [this, wrap64_nat (by omega), tm16]
def Circ (x : Nat → B32) (f : Nat → B32) (m : Nat) : Prop := ∀ i, i < m → m ≤ i + 16 → f (i % 16) = Wd x i
theorem Circ.next {x f : Nat → B32} {t : Nat} (h : Circ x f t) : Circ x (fput f (t % 16) (Wd x t)) (t + 1) := fun i h1 h2 => by
  by_cases e : i = t
  · subst e; rw [fput_same]
  · rw [fput_ne _ _ (by omega)]
    exact h i (by omega) (by omega)
def S8.get (s : S8) : Nat → B32
  | 0 => s.a | 1 => s.b | 2 => s.c | 3 => s.d | 4 => s.e | 5 => s.f | 6 => s.g | _ => s.h
theorem S8.cells_fc (s : S8) : s.cells = fc (fun i => wU (s.get i)) 8 := rfl
def stC8 (q : Nat → B32) (r : List Value) : List Value := fc (fun i => wU (q i)) 8 ++ r
theorem st8_get {q : Nat → B32} {r : List Value} {j : Nat} (h : j < 8) : ldE tt 153 (stC8 q r) (0 + 0 + j * 1) = some (wU (q j)) := ldE_at rfl (by
  rw [Nat.zero_add, Nat.mul_one, stC8, List.getElem?_append_left (by rw [fc_len]; exact h)]; exact fc_get h)
theorem st8_put {q : Nat → B32} {r : List Value} {j : Nat} {z : Int} (w : B32) (h : j < 8) (hz : z = U w) : setE (stC8 q r) (0 + 0 + j * 1) (cellsL (.int .u32 z)) = some (stC8 (fput q j w) r) := by
  subst hz
  have h1 : j < (stC8 q r).length := by rw [stC8, List.length_append, fc_len]; omega
  rw [Nat.zero_add, Nat.mul_one, setE_of (by show j + 1 ≤ _; omega)]
  congr 1
  show setSeg (stC8 q r) j [wU w] = _
  rw [setSeg_one h1, stC8, List.set_append_left _ _ (by rw [fc_len]; exact h), fc_set]
  unfold stC8
  congr 1
  exact fc_ext fun i _ => by
    by_cases e : i = j
    · subst e; rw [fput_same, fput_same]
    · rw [fput_ne _ _ e, fput_ne _ _ e]
end Go.Proofs.YtkjljcgbnikmkaaGreatDoor
namespace Go.Proofs.YtkjljcgbnikmkaaGreatDoor
open Go.Chi
set_option maxRecDepth 10000
abbrev wBk (b : Nat) (f : Nat → B32) : Nat × Obj := (b, .cells ⟨wC f⟩ 165 (0, 0))
abbrev pt (b : Nat) : Value := .pointer (some ⟨b, 0, none⟩)
abbrev iv (n : Nat) : Value := .int .i64 (n : Int)
set_option maxHeartbeats 4000000 in
theorem take_ok (M : Mem) (L : HL) (b : Nat) (s : S8) (m : Nat → UInt8) (n : Nat) (hk : KM M) : Tr Tryz.prog 120 [.pointer (some ⟨b, 0, none⟩)] M (shB b s m n :: L) (fun _ M' L' => M = M' ∧ L' = shB b (takeS s m) m n :: L) := by
  refine Tr.intro 216 Tryz.func120 rfl rfl Tryz.call120 rfl ?_
  intro C hC hro
  repeat (first | refine zz ?_ | refine zx fun _ => ?_)
  rename_i bw
  refine run_loopN (fun j σ1 M1 L1 => j ≤ 16 ∧ M = M1 ∧ ∃ f : Nat → B32, (∀ i, i < j → f i = wrd m i) ∧ (∀ i, j ≤ i → f i = 0) ∧ L1 = wBk bw f :: shB b s m n :: L ∧ σ1 = [(21, iv j), (2, pt bw), (0, pt b)]) 16 [(21, iv 0), (2, pt bw), (0, pt b)] ?_ ⟨Nat.zero_le _, rfl, fun _ => 0, (fun i hi => absurd hi (Nat.not_lt_zero _)), (fun _ _ => rfl), rfl, rfl⟩ (fun j _ _ _ h => h.1) ?_
  · exact ⟨rfl, rfl, rfl, trivial⟩
  rintro j _ _ _ ⟨hj, rfl, f, hf1, hf2, rfl, rfl⟩ hnext
  repeat (first | refine zz ?_ | refine zx fun _ => ?_)
  refine run_cond rfl (fun h => ?_) (fun h => ?_)
  · have hlt : j < 16 := by simp at h; omega
    have e1 : IntKind.i64.wrap (4 * (j : Int)) = ((4 * j : Nat) : Int) := by
      have : (4 * (j : Int)) = ((4 * j : Nat) : Int) := by omega
      rw [this]; exact wrap64_nat (by omega)
    have e2 : IntKind.i64.wrap (((4 * j : Nat) : Int) + 4) = ((4 * j + 4 : Nat) : Int) := wrap64_nat (n := 4 * j + 4) (by omega)
    repeat (first | refine zz ?_ | refine zx fun _ => ?_)
    refine runL_as 28 (iv (4 * j)) rfl (congrArg (Value.int .i64) e1) ?_
    refine runL_as 31 (iv (4 * j + 4)) rfl (congrArg (Value.int .i64) (by rw [e1, e2])) ?_
    refine rq (qt_sliceArr2 tok rfl rfl rfl rfl rfl (fun _ => by omega)) ?_
    repeat (first | refine zz ?_ | refine zx fun _ => ?_)
    refine run_loopN (fun i σ1 M1 L1 => i ≤ 4 ∧ M = M1 ∧ ∃ g : Nat → B32, g j = wrdN m j i ∧ (∀ x, x ≠ j → g x = f x) ∧ L1 = wBk bw g :: shB b s m n :: L ∧ σ1 = [(34, iv i), (33, iv (4 * j + 4 - 4 * j)), (32, .slice (some ⟨b, 0 + 8 + 4 * j * 1, none⟩) (4 * j + 4 - 4 * j) (64 - 4 * j)), (3, iv j), (21, iv j), (2, pt bw), (0, pt b)]) 4 [(34, iv 0), (33, iv (4 * j + 4 - 4 * j)), (32, .slice (some ⟨b, 0 + 8 + 4 * j * 1, none⟩) (4 * j + 4 - 4 * j) (64 - 4 * j)), (3, iv j), (21, iv j), (2, pt bw), (0, pt b)] ?_ ⟨Nat.zero_le _, rfl, f, hf2 j (Nat.le_refl _), (fun _ _ => rfl), rfl, rfl⟩ (fun j _ _ _ h => h.1) ?_
    · exact ⟨rfl, rfl, rfl, rfl, rfl, rfl, rfl, trivial⟩
    rintro i _ _ _ ⟨hi, rfl, g, hg1, hg2, rfl, rfl⟩ hnext2
    repeat (first | refine zz ?_ | refine zx fun _ => ?_)
    refine run_cond rfl (fun h2 => ?_) (fun h2 => ?_)
    · have hlt2 : i < 4 := by simp at h2; omega
      repeat (first | refine zz ?_ | refine zx fun _ => ?_)
      refine rq (qt_indexN tok rfl rfl rfl rfl (fun _ => by omega)) ?_
      refine rq (qt_ld tok rfl (by (repeat (first | with_reducible apply List.mem_cons_self | with_reducible assumption | with_reducible apply List.mem_cons_of_mem | with_reducible apply List.mem_append_right))) (ldE_at rfl (sh_wait s m n (i := 4 * j + i) (by omega) (by omega)))) ?_
      repeat (first | refine zz ?_ | refine zx fun _ => ?_)
      refine rq (qt_indexA tok rfl rfl rfl rfl (fun _ => hlt)) ?_
      refine rq (qt_ld tok rfl (by (repeat (first | with_reducible apply List.mem_cons_self | with_reducible assumption | with_reducible apply List.mem_cons_of_mem | with_reducible apply List.mem_append_right))) (wC_get hlt)) ?_
      refine rq (qt_shl rfl rfl (fun _ => by decide)) ?_
      repeat (first | refine zz ?_ | refine zx fun _ => ?_)
      refine rq (qt_indexA tok rfl rfl rfl rfl (fun _ => hlt)) ?_
      refine ws ?_ rfl rfl rfl rfl rfl (by (repeat (first | with_reducible apply Upd.here | with_reducible apply Upd.there | with_reducible apply Upd.append_left))) (wC_put ((g j <<< 8) ||| bB (m (4 * j + i))) hlt (u_byte _ _))
      repeat (first | refine zz ?_ | refine zx fun _ => ?_)
      refine run_sub' (hnext2 _ _ _ ⟨hlt2, rfl, _, ?_, ?_, rfl, rfl⟩) ⟨lk_succ rfl (by omega), rfl, rfl, rfl, rfl, rfl, rfl, trivial⟩
      · rw [fput_same, hg1]; rfl
      · intro x hx
        rw [fput_ne _ _ hx]; exact hg2 x hx
    · have : i = 4 := by simp at h2; omega
      subst this
      repeat (first | refine zz ?_ | refine zx fun _ => ?_)
      refine run_sub' (hnext _ _ _ ⟨hlt, rfl, g, ?_, ?_, rfl, rfl⟩) ⟨lk_succ rfl (by omega), rfl, rfl, trivial⟩
      · intro x hx
        by_cases e : x = j
        · subst e; exact hg1
        · rw [hg2 x e]; exact hf1 x (by omega)
      · intro x hx
        rw [hg2 x (by omega)]; exact hf2 x (by omega)
  have : j = 16 := by simp at h; omega
  subst this
  clear hnext hf2
  repeat (first | refine zz ?_ | refine zx fun _ => ?_ | refine dd ?_ | refine dz ?_ | refine dx fun _ => ?_ | refine pq rfl (qt_indexC tok rfl rfl rfl rfl (fun _ => by decide)) ?_)
  have hc0 : Circ (wrd m) f 16 := fun i h1 h2 => by
    rw [Wd, if_pos h1, Nat.mod_eq_of_lt h1]; exact hf1 i h1
  let σs := fun (t : Nat) (r : S8) => [(89, iv t), (13, wU r.h), (12, wU r.g), (11, wU r.f), (10, wU r.e), (9, wU r.d), (8, wU r.c), (7, wU r.b), (6, wU r.a), (2, pt bw), (0, pt b)]
  refine run_loopN (fun t σ1 M1 L1 => t ≤ 64 ∧ M = M1 ∧ ∃ g : Nat → B32, Circ (wrd m) g (max t 16) ∧ L1 = wBk bw g :: shB b s m n :: L ∧ σ1 = σs t (rnds kT (Wd (wrd m)) t s)) 64 (σs 0 s) ?_ ⟨Nat.zero_le _, rfl, f, hc0, rfl, rfl⟩ (fun j _ _ _ h => h.1) ?_
  · exact ⟨rfl, rfl, rfl, rfl, rfl, rfl, rfl, rfl, rfl, rfl, rfl, trivial⟩
  rintro t _ _ _ ⟨ht, rfl, g, hg, rfl, rfl⟩ hnext
  simp only [σs] at hnext ⊢
  generalize hr : rnds kT (Wd (wrd m)) t s = r
  repeat (first | refine zz ?_ | refine zx fun _ => ?_)
  refine run_cond rfl (fun h => ?_) (fun h => ?_)
  · have hlt : t < 64 := by simp at h; omega
    refine run_skip ?_
    refine run_seq ?_
    refine run_block ?_
    refine run_seq ?_
    (refine run_region ?_; (repeat (first | refine zq ?_ | refine zx fun _ => ?_)); refine runL_nil ?_)
    refine run_seq ?_
    refine run_cut (fun σ' M' L' => M = M' ∧ ∃ g : Nat → B32, Circ (wrd m) g (max (t + 1) 16) ∧ g (t % 16) = Wd (wrd m) t ∧ L' = wBk bw g :: shB b s m n :: L ∧ σ' = (14, iv t) :: σs t r) ?_ ?_
    rotate_left
    · intro hmid
      repeat (first | refine zz ?_ | refine zx fun _ => ?_)
      refine run_cond rfl (fun h2 => ?_) (fun h2 => ?_)
      · have h16 : 16 ≤ t := by simp at h2; omega
        have hm : max t 16 = t := by omega
        rw [hm] at hg
        have r1 := hg (t - 15) (by omega) (by omega)
        have r2 := hg (t - 2) (by omega) (by omega)
        have r7 := hg (t - 7) (by omega) (by omega)
        have r16 := hg (t - 16) (by omega) (by omega)
        rw [show (t - 15) % 16 = (t + 1) % 16 by omega] at r1
        rw [show (t - 2) % 16 = (t + 14) % 16 by omega] at r2
        rw [show (t - 7) % 16 = (t + 9) % 16 by omega] at r7
        rw [show (t - 16) % 16 = t % 16 by omega] at r16
        refine run_seq ?_
        refine prn_start mixed ?_
        repeat (first | refine dz ?_ | refine dx fun _ => ?_)
        refine pq rfl (Qt.as (v' := iv ((t + 1) % 16)) (qt_rem rfl rfl (fun _ => by decide)) (congrArg (Value.int .i64) (tm16w t 1 (by omega)))) ?_
        refine pq rfl (qt_indexA tok rfl rfl rfl rfl (fun _ => by omega)) ?_
        refine pq rfl (qt_ld tok rfl (by (repeat (first | with_reducible apply List.mem_cons_self | with_reducible assumption | with_reducible apply List.mem_cons_of_mem | with_reducible apply List.mem_append_right))) (wC_get (by omega))) ?_
        repeat (first | refine dz ?_ | refine dx fun _ => ?_)
        refine pq rfl (Qt.as (v' := iv ((t + 14) % 16)) (qt_rem rfl rfl (fun _ => by decide)) (congrArg (Value.int .i64) (tm16w t 14 (by omega)))) ?_
        refine pq rfl (qt_indexA tok rfl rfl rfl rfl (fun _ => by omega)) ?_
        refine pq rfl (qt_ld tok rfl (by (repeat (first | with_reducible apply List.mem_cons_self | with_reducible assumption | with_reducible apply List.mem_cons_of_mem | with_reducible apply List.mem_append_right))) (wC_get (by omega))) ?_
        repeat (first | refine dz ?_ | refine dx fun _ => ?_)
        refine prn_end (by decide +kernel) ?_
        rw [r1, r2]
        refine prn_start mixed ?_
        repeat (first | refine dz ?_ | refine dx fun _ => ?_)
        refine pq rfl (Qt.as (v' := iv (t % 16)) (qt_rem rfl rfl (fun _ => by decide)) (congrArg (Value.int .i64) (tm16 t))) ?_
        refine pq rfl (qt_indexA tok rfl rfl rfl rfl (fun _ => by omega)) ?_
        refine pq rfl (qt_ld tok rfl (by (repeat (first | with_reducible apply List.mem_cons_self | with_reducible assumption | with_reducible apply List.mem_cons_of_mem | with_reducible apply List.mem_append_right))) (wC_get (by omega))) ?_
        repeat (first | refine dz ?_ | refine dx fun _ => ?_)
        refine pq rfl (qt_callF rfl (fun _ => right_ok _ _ _ 7 (by decide) (by decide))) ?_
        repeat (first | refine dz ?_ | refine dx fun _ => ?_)
        refine pq rfl (qt_callF rfl (fun _ => right_ok _ _ _ 18 (by decide) (by decide))) ?_
        repeat (first | refine dz ?_ | refine dx fun _ => ?_)
        refine pq rfl (qt_shr rfl rfl (fun _ => by decide)) ?_
        repeat (first | refine dz ?_ | refine dx fun _ => ?_)
        refine pq rfl (Qt.as (v' := iv ((t + 9) % 16)) (qt_rem rfl rfl (fun _ => by decide)) (congrArg (Value.int .i64) (tm16w t 9 (by omega)))) ?_
        refine pq rfl (qt_indexA tok rfl rfl rfl rfl (fun _ => by omega)) ?_
        refine pq rfl (qt_ld tok rfl (by (repeat (first | with_reducible apply List.mem_cons_self | with_reducible assumption | with_reducible apply List.mem_cons_of_mem | with_reducible apply List.mem_append_right))) (wC_get (by omega))) ?_
        repeat (first | refine dz ?_ | refine dx fun _ => ?_)
        refine pq rfl (qt_callF rfl (fun _ => right_ok _ _ _ 17 (by decide) (by decide))) ?_
        repeat (first | refine dz ?_ | refine dx fun _ => ?_)
        refine pq rfl (qt_callF rfl (fun _ => right_ok _ _ _ 19 (by decide) (by decide))) ?_
        repeat (first | refine dz ?_ | refine dx fun _ => ?_)
        refine pq rfl (qt_shr rfl rfl (fun _ => by decide)) ?_
        repeat (first | refine dz ?_ | refine dx fun _ => ?_)
        refine pq rfl (qt_indexA tok rfl rfl rfl rfl (fun _ => by omega)) ?_
        refine prn_e0 rfl (sst tok rfl rfl rfl rfl rfl (by (repeat (first | with_reducible apply Upd.here | with_reducible apply Upd.there | with_reducible apply Upd.append_left))) (wC_put (Wd (wrd m) t) (by omega) ?_)) (by decide +kernel) ?_
        · conv => rhs; rw [Wd, if_neg (by omega)]
          simp only [u_shr3, u_shr10, u_xor, u_add, r7, r16]
          rfl
        rintro _ _ _ ⟨rfl, rfl, rfl⟩
        refine prn_end (by decide +kernel) ?_
        have hm' : max (t + 1) 16 = t + 1 := by omega
        exact run_sub' (hmid _ _ _ ⟨rfl, _, by rw [hm']; exact hg.next, fput_same _ _ _, rfl, rfl⟩) ⟨rfl, rfl, rfl, rfl, rfl, rfl, rfl, rfl, rfl, rfl, rfl, rfl, trivial⟩
      · have h16 : t < 16 := by simp at h2; omega
        have hm : max t 16 = 16 := by omega
        have hm' : max (t + 1) 16 = 16 := by omega
        refine run_skip ?_
        refine run_sub' (hmid _ _ _ ⟨rfl, g, by rw [hm']; rw [hm] at hg; exact hg, by rw [hm] at hg; exact hg t h16 (by omega), rfl, rfl⟩) ⟨rfl, rfl, rfl, rfl, rfl, rfl, rfl, rfl, rfl, rfl, rfl, rfl, trivial⟩
    rintro _ _ _ ⟨rfl, g', hg', hgt, rfl, rfl⟩
    simp only [σs]
    refine run_seq ?_
    refine prn_start mixed ?_
    repeat (first | refine dz ?_ | refine dx fun _ => ?_)
    refine pq rfl (qt_callF rfl (fun _ => right_ok _ _ _ 6 (by decide) (by decide))) ?_
    repeat (first | refine dz ?_ | refine dx fun _ => ?_)
    refine pq rfl (qt_callF rfl (fun _ => right_ok _ _ _ 11 (by decide) (by decide))) ?_
    repeat (first | refine dz ?_ | refine dx fun _ => ?_)
    refine pq rfl (qt_callF rfl (fun _ => right_ok _ _ _ 25 (by decide) (by decide))) ?_
    repeat (first | refine dz ?_ | refine dx fun _ => ?_)
    refine pq rfl (qt_indexA tok rfl rfl rfl rfl (fun _ => hlt)) ?_
    refine pq rfl (qt_ldM (k := t * 1) tok rfl hk (ldE_at rfl (by rw [Nat.mul_one]; exact fc_get hlt))) ?_
    repeat (first | refine dz ?_ | refine dx fun _ => ?_)
    refine pq rfl (Qt.as (v' := iv (t % 16)) (qt_rem rfl rfl (fun _ => by decide)) (congrArg (Value.int .i64) (tm16 t))) ?_
    refine pq rfl (qt_indexA tok rfl rfl rfl rfl (fun _ => by omega)) ?_
    refine pq rfl (qt_ld tok rfl (by (repeat (first | with_reducible apply List.mem_cons_self | with_reducible assumption | with_reducible apply List.mem_cons_of_mem | with_reducible apply List.mem_append_right))) (wC_get (by omega))) ?_
    repeat (first | refine dz ?_ | refine dx fun _ => ?_)
    refine prn_end (by decide +kernel) ?_
    repeat (first | refine zz ?_ | refine zx fun _ => ?_ | refine rq (qt_callF rfl (fun _ => right_ok _ _ _ 2 (by decide) (by decide))) ?_ | refine rq (qt_callF rfl (fun _ => right_ok _ _ _ 13 (by decide) (by decide))) ?_ | refine rq (qt_callF rfl (fun _ => right_ok _ _ _ 22 (by decide) (by decide))) ?_)
    have hs : rnds kT (Wd (wrd m)) (t + 1) s = rnd (kT t) (Wd (wrd m) t) r := by rw [rnds, hr]
    rw [hs] at hnext
    refine run_as 10 (wU (r.d + one8 (kT t) (Wd (wrd m) t) r)) rfl (congrArg (Value.int .u32) (by simp only [u_xor, u_and, u_add, hgt]; rfl)) ?_
    refine run_as 6 (wU (one8 (kT t) (Wd (wrd m) t) r + two8 r)) rfl (congrArg (Value.int .u32) (by simp only [u_xor, u_and, u_or, u_add, hgt]; rfl)) ?_
    exact run_sub' (hnext _ _ _ ⟨hlt, rfl, g', hg', rfl, rfl⟩) ⟨lk_succ rfl (by omega), rfl, rfl, rfl, rfl, rfl, rfl, rfl, rfl, rfl, rfl, trivial⟩
  have : t = 64 := by simp at h; omega
  subst this
  clear hnext
  repeat (first | refine zz ?_ | refine zx fun _ => ?_)
  refine rq (Qt.as (v' := .agg ⟨r.cells⟩) (qt_buildArr tok rfl rfl rfl rfl rfl rfl) rfl) ?_
  repeat (first | refine zz ?_ | refine zx fun _ => ?_)
  have hL : shB b s m n = (b, .cells ⟨stC8 s.get (fc (fun i => wB (m i)) 64 ++ [.int .i64 (n : Int)])⟩ 157 (0, 0)) := rfl
  rw [hL]
  generalize hR : fc (fun i => wB (m i)) 64 ++ [.int .i64 (n : Int)] = R at hL ⊢
  refine run_loopN (fun j σ1 M1 L1 => j ≤ 8 ∧ M = M1 ∧ ∃ q : Nat → B32, (∀ i, i < j → q i = s.get i + r.get i) ∧ (∀ i, j ≤ i → q i = s.get i) ∧ L1 = wBk bw g :: (b, .cells ⟨stC8 q R⟩ 157 (0, 0)) :: L ∧ σ1 = [(200, iv j), (199, .agg ⟨r.cells⟩), (0, pt b)]) 8 [(200, iv 0), (199, .agg ⟨r.cells⟩), (0, pt b)] ?_ ⟨Nat.zero_le _, rfl, _, (fun i hi => absurd hi (Nat.not_lt_zero _)), (fun _ _ => rfl), rfl, rfl⟩ (fun j _ _ _ h => h.1) ?_
  · exact ⟨rfl, rfl, rfl, trivial⟩
  rintro j _ _ _ ⟨hj, rfl, q, hq1, hq2, rfl, rfl⟩ hnext
  repeat (first | refine zz ?_ | refine zx fun _ => ?_)
  refine run_cond rfl (fun h => ?_) (fun h => ?_)
  · have hlt : j < 8 := by simp at h; omega
    repeat (first | refine zz ?_ | refine zx fun _ => ?_)
    refine rq (qt_indexV (v := wU (r.get j)) tok rfl rfl rfl rfl (fun _ => ⟨hlt, ldE_at rfl (by show r.cells[j]? = _; rw [S8.cells_fc]; exact fc_get hlt)⟩)) ?_
    repeat (first | refine zz ?_ | refine zx fun _ => ?_)
    refine prn_start mixed ?_
    repeat (first | refine dz ?_ | refine dx fun _ => ?_)
    refine pq rfl (qt_indexA tok rfl rfl rfl rfl (fun _ => hlt)) ?_
    refine pq rfl (qt_ld tok rfl (by (repeat (first | with_reducible apply List.mem_cons_self | with_reducible assumption | with_reducible apply List.mem_cons_of_mem | with_reducible apply List.mem_append_right))) (st8_get hlt)) ?_
    repeat (first | refine dz ?_ | refine dx fun _ => ?_)
    refine pq rfl (qt_indexA tok rfl rfl rfl rfl (fun _ => hlt)) ?_
    refine prn_e0 rfl (sst tok rfl rfl rfl rfl rfl (by (repeat (first | with_reducible apply Upd.here | with_reducible apply Upd.there | with_reducible apply Upd.append_left))) (st8_put (q j + r.get j) hlt (u_add _ _))) (by decide +kernel) ?_
    rintro _ _ _ ⟨rfl, rfl, rfl⟩
    refine prn_end (by decide +kernel) ?_
    repeat (first | refine zz ?_ | refine zx fun _ => ?_)
    refine run_sub' (hnext _ _ _ ⟨hlt, rfl, _, ?_, ?_, rfl, rfl⟩) ⟨lk_succ rfl (by omega), rfl, rfl, trivial⟩
    · intro x hx
      by_cases e : x = j
      · subst e; rw [fput_same, hq2 x (Nat.le_refl _)]
      · rw [fput_ne _ _ e]; exact hq1 x (by omega)
    · intro x hx
      rw [fput_ne _ _ (by omega)]; exact hq2 x (by omega)
  have : j = 8 := by simp at h; omega
  subst this
  repeat (first | refine zz ?_ | refine zx fun _ => ?_)
  refine run_end hC rfl (vs := []) trivial (fun _ h => h.drop) ⟨rfl, ?_⟩
  have e : stC8 q R = (takeS s m).cells ++ R := by
    unfold stC8
    congr 1
    rw [S8.cells_fc]
    exact fc_ext fun i hi => by
      rw [hq1 i hi]
      have : i = 0 ∨ i = 1 ∨ i = 2 ∨ i = 3 ∨ i = 4 ∨ i = 5 ∨ i = 6 ∨ i = 7 := by omega
      rcases this with rfl | rfl | rfl | rfl | rfl | rfl | rfl | rfl <;> (rw [← hr]; rfl)
  rw [e, ← hR]
  rfl
end Go.Proofs.YtkjljcgbnikmkaaGreatDoor
namespace Go.Proofs.YtkjljcgbnikmkaaGreatDoor
open Go.Chi
set_option maxRecDepth 10000
def nameB (c : Int) : Bool := (((decide (c ≥ 97) && decide (c ≤ 122)) || (decide (c ≥ 48) && decide (c ≤ 57))) || c == 47 || c == 46) || c == 45
def nameR (s : ByteArray) : Bool := ((List.range s.size).all fun i => nameB (byte s i)) && decide (s.size ≠ 0)
set_option maxRecDepth 10000 in
set_option maxHeartbeats 4000000 in
theorem name_ok (M : Mem) (L : HL) (s : ByteArray) (hs : s.size < 4611686018427387904) : TrQ Tryz.prog 145 [.string s] M L (.bool (nameR s)) := by
  refine Tr.intro 43 Tryz.func145 rfl rfl Tryz.call145 rfl ?_
  intro C hC hro
  repeat (first | refine zz ?_ | refine zx fun _ => ?_)
  refine run_loopN (fun i σ1 M1 L1 => i ≤ s.size ∧ ((List.range i).all fun i => nameB (byte s i)) = true ∧ σ1 = [(3, .int .i64 (i : Int)), (0, .string s)] ∧ M = M1 ∧ L = L1) s.size [(3, .int .i64 ((0 : Nat) : Int)), (0, .string s)] ?_ ⟨Nat.zero_le _, rfl, rfl, rfl, rfl⟩ (fun j _ _ _ h => h.1) ?_
  · exact ⟨rfl, rfl, trivial⟩
  rintro i _ _ _ ⟨hi, hall, rfl, rfl, rfl⟩ hnext
  repeat (first | refine zz ?_ | refine zx fun _ => ?_)
  refine run_cond rfl (fun h => ?_) (fun h => ?_)
  · have hlt : i < s.size := by simpa using h
    obtain ⟨b, hb, hb'⟩ := byte_at hlt
    repeat (first | refine zz ?_ | refine zx fun _ => ?_ | refine runL_q (qt_strIndex tok rfl rfl rfl (fun _ => hb)) rfl rfl rfl ?_)
    refine run_cond rfl (fun h2 => ?_) (fun h2 => ?_)
    · have h3 : nameB (byte s i) = false := by
        rw [hb']
        have h2' : (!nameB (b.toNat : Int)) = true := h2
        simpa using h2'
      repeat (first | refine zz ?_ | refine zx fun _ => ?_)
      refine run_ret hC (rs := [.tmp 2]) rfl (resT rfl resN) (fun _ h => h) ⟨?_, rfl, rfl⟩
      have : ((List.range s.size).all fun i => nameB (byte s i)) = false := by
        rw [List.all_eq_false]
        exact ⟨i, List.mem_range.2 hlt, by simp [h3]⟩
      rw [nameR, this]; rfl
    · have h3 : nameB (byte s i) = true := by
        rw [hb']
        have h2' : (!nameB (b.toNat : Int)) = false := h2
        simpa using h2'
      repeat (first | refine zz ?_ | refine zx fun _ => ?_)
      exact run_sub' (hnext _ _ _ ⟨hlt, by rw [List.range_succ, List.all_append, hall]; simp [h3], rfl, rfl, rfl⟩) ⟨lk_succ rfl (by omega), rfl, trivial⟩
  · have hge : i = s.size := by simp at h; omega
    subst hge
    repeat (first | refine zz ?_ | refine zx fun _ => ?_)
    refine run_ret hC (rs := [.tmp 2]) rfl (resT rfl resN) (fun _ h => h) ⟨?_, rfl, rfl⟩
    rw [nameR, hall, empty_beq]
    by_cases h0 : s.size = 0
    · simp [h0]; rfl
    · simp [h0]; rfl
theorem abc_all : ∀ n : Fin 256, nameB ((n.val : Nat) : Int) = true → n.val < 128 ∧ inAbc ((n.val : Nat) : Int) = true := by decide +kernel
theorem nameB_imp {b : UInt8} (h : nameB (b.toNat : Int) = true) : b.toNat < 128 ∧ inAbc (b.toNat : Int) = true := abc_all ⟨b.toNat, b.toNat_lt⟩ h
theorem nameAt {s : ByteArray} (h : ((List.range s.size).all fun i => nameB (byte s i)) = true) : ∀ f p, namedAt s f p = true
  | 0, _ => rfl
  | f + 1, p => by
    rw [namedAt]
    split
    · rename_i hp
      have hb := List.all_eq_true.1 h p (List.mem_range.2 hp)
      have hx : byte s p = ((s[p]'hp).toNat : Int) := by rw [byte, getElem?_pos s p hp]; rfl
      rw [hx] at hb
      obtain ⟨h1, h2⟩ := nameB_imp hb
      rw [decode_ascii s p hp h1, h2]
      exact nameAt h f _
    · rfl
theorem nameR_imp {s : ByteArray} (h : nameR s = true) : namedR s = true := by
  rw [nameR, Bool.and_eq_true] at h
  rw [namedR, nameAt h.1, h.2]; rfl
def headR (s : ByteArray) : Int × Int × Int :=
  if s.size = 0 then (0, 0, 6) else
  if byte s 0 = 100 then (IntKind.i64.wrap (1 + (refText (rest1 s) 1024).2.1), 0, (refText (rest1 s) 1024).2.2) else
  if byte s 0 = 97 then (if (refText (rest1 s) 32).2.2 = 0 ∧ nameR (refText (rest1 s) 32).1 = false then (0, 0, 7) else (IntKind.i64.wrap (1 + (refText (rest1 s) 32).2.1), 0, (refText (rest1 s) 32).2.2)) else
  if byte s 0 = 114 then (if (refNum (rest1 s)).2.2 = 0 ∧ 32 < (refNum (rest1 s)).1 then (0, 0, 5) else (IntKind.i64.wrap (1 + (refNum (rest1 s)).2.1), IntKind.i64.wrap (refNum (rest1 s)).1, (refNum (rest1 s)).2.2)) else
  if byte s 0 = 104 then (1, 1, 0) else
  if byte s 0 = 109 then (1, 2, 0) else
  if byte s 0 = 115 then (1, 3, 0) else (0, 0, 7)
theorem headR_imp {s : ByteArray} (hs : s.size < 4611686018427387904) (h : (headR s).2.2 = 0) : ∃ n p : Nat, headR s = ((n : Int), (p : Int), 0) ∧ frontR s = .ok (n, p) := by
  have hr := rest1_size (s := s)
  unfold headR at h ⊢
  unfold frontR
  split at h
  · cases h
  rename_i h0
  rw [if_neg h0, if_neg h0]
  split at h
  · rename_i h1
    rw [if_pos h1, if_pos h1]
    have hi := refText_imp h
    obtain ⟨m, hm, _, _⟩ := textR_len (rest1 s) 1024 (by rw [hi]; exact h)
    rw [hi] at hm ⊢
    rw [h, hm, one_wrap (by omega)]
    exact ⟨1 + m, 0, rfl, by simp; omega⟩
  rename_i h1
  rw [if_neg h1, if_neg h1]
  split at h
  · rename_i h2
    rw [if_pos h2, if_pos h2]
    split at h
    · cases h
    rename_i h3
    have hi := refText_imp h
    obtain ⟨m, hm, _, _⟩ := textR_len (rest1 s) 32 (by rw [hi]; exact h)
    have h4 : nameR (refText (rest1 s) 32).1 = true := by
      cases e : nameR (refText (rest1 s) 32).1 with
      | true => rfl
      | false => exact absurd ⟨h, e⟩ h3
    have h5 := nameR_imp h4
    rw [if_neg h3]
    rw [hi] at hm ⊢
    rw [h5, h, hm, one_wrap (by omega)]
    exact ⟨1 + m, 0, rfl, by simp; omega⟩
  rename_i h2
  rw [if_neg h2, if_neg h2]
  split at h
  · rename_i h3
    rw [if_pos h3, if_pos h3]
    split at h
    · cases h
    rename_i h4
    have hi := refNum_imp h
    obtain ⟨m, hm, _, _⟩ := numR_len (rest1 s) (by rw [hi]; exact h)
    have hv0 := numR_pos (rest1 s)
    rw [if_neg h4]
    rw [hi] at hm hv0 ⊢
    have h5 : ¬ 32 < (refNum (rest1 s)).1 := fun h5 => h4 ⟨h, h5⟩
    obtain ⟨v, hv⟩ : ∃ v : Nat, (refNum (rest1 s)).1 = v := ⟨(refNum (rest1 s)).1.toNat, by omega⟩
    rw [h, hm, hv, one_wrap (by omega), wrap64_nat (by omega)]
    rw [hv] at h5
    exact ⟨1 + m, v, rfl, by simp [h5]; omega⟩
  rename_i h3
  rw [if_neg h3, if_neg h3]
  split at h
  · rename_i h4; rw [if_pos h4, if_pos h4]; exact ⟨1, 1, rfl, rfl⟩
  rename_i h4
  rw [if_neg h4, if_neg h4]
  split at h
  · rename_i h5; rw [if_pos h5, if_pos h5]; exact ⟨1, 2, rfl, rfl⟩
  rename_i h5
  rw [if_neg h5, if_neg h5]
  split at h
  · rename_i h6; rw [if_pos h6, if_pos h6]; exact ⟨1, 3, rfl, rfl⟩
  · cases h
theorem refText_size (s : ByteArray) (most : Nat) : (refText s most).1.size ≤ s.size := by
  unfold refText
  repeat' split
  all_goals first | exact Nat.zero_le _ | (simp; omega)
set_option maxRecDepth 10000 in
set_option maxHeartbeats 8000000 in
theorem head_ok (M : Mem) (L : HL) (s : ByteArray) (hs : s.size < 4611686018427387904) : TrQ Tryz.prog 143 [.string s] M L (.tuple ⟨[.int .i64 (headR s).1, .int .i64 (headR s).2.1, .int .i64 (headR s).2.2]⟩) := by
  refine Tr.intro 76 Tryz.func143 rfl rfl Tryz.call143 rfl ?_
  intro C hC hro
  repeat (first | refine zz ?_ | refine zx fun _ => ?_)
  refine run_cond rfl (fun h => ?_) (fun h => ?_)
  · repeat (first | refine zz ?_ | refine zx fun _ => ?_)
    have h0 : s.size = 0 := by have := eq_of_beq h; omega
    exact run_ret hC (rs := [.tmp 2, .tmp 3, .tmp 4]) rfl (resT rfl (resT rfl (resT rfl resN))) (fun _ h => h) ⟨by rw [headR, if_pos h0]; rfl, rfl, rfl⟩
  have h : ¬ s.size = 0 := by intro e; rw [e] at h; cases h
  have hp : 0 < s.size := by omega
  obtain ⟨b0, hb0, hb0'⟩ := byte_at hp
  have hr : (rest1 s).size < 4611686018427387904 := by rw [rest1_size]; omega
  repeat (first | refine zz ?_ | refine zx fun _ => ?_ | refine runL_q (qt_strIndex (n := 0) tok rfl rfl rfl (fun _ => hb0)) rfl rfl rfl ?_)
  refine run_cond rfl (fun h1 => ?_) (fun h1 => ?_)
  · have hb1 : byte s 0 = 100 := byte_eq hb0' h1
    repeat (first | refine zz ?_ | refine zx fun _ => ?_ | refine runL_q (qt_strLo (n := 1) tok rfl rfl rfl (fun _ => hp)) rfl rfl rfl ?_ | refine runL_q (qt_callF rfl (fun _ => refText_ok _ _ (rest1 s) 1024 hr (by decide))) rfl rfl rfl ?_)
    exact run_ret hC (rs := [.tmp 2, .tmp 3, .tmp 4]) rfl (resT rfl (resT rfl (resT rfl resN))) (fun _ h => h) ⟨by rw [headR, if_neg h, if_pos hb1]; rfl, rfl, rfl⟩
  have hb1 : byte s 0 ≠ 100 := byte_eq hb0' h1
  repeat (first | refine zz ?_ | refine zx fun _ => ?_)
  refine run_cond rfl (fun h1 => ?_) (fun h1 => ?_)
  · have hb2 : byte s 0 = 97 := byte_eq hb0' h1
    have hts := refText_size (rest1 s) 32
    repeat (first | refine zz ?_ | refine zx fun _ => ?_ | refine runL_q (qt_strLo (n := 1) tok rfl rfl rfl (fun _ => hp)) rfl rfl rfl ?_ | refine runL_q (qt_callF rfl (fun _ => refText_ok _ _ (rest1 s) 32 hr (by decide))) rfl rfl rfl ?_ | refine runL_g rfl rfl (qt_callF rfl (fun _ => name_ok _ _ _ (by omega))) rfl rfl rfl rfl rfl ?_)
    refine run_cond rfl (fun h3 => ?_) (fun h3 => ?_)
    · have h4 : (refText (rest1 s) 32).2.2 = 0 ∧ nameR (refText (rest1 s) 32).1 = false := by simpa using h3
      repeat (first | refine zz ?_ | refine zx fun _ => ?_)
      exact run_ret hC (rs := [.tmp 2, .tmp 3, .tmp 4]) rfl (resT rfl (resT rfl (resT rfl resN))) (fun _ h => h) ⟨by rw [headR, if_neg h, if_neg hb1, if_pos hb2, if_pos h4]; rfl, rfl, rfl⟩
    · have h4 : ¬ ((refText (rest1 s) 32).2.2 = 0 ∧ nameR (refText (rest1 s) 32).1 = false) := by simpa using h3
      repeat (first | refine zz ?_ | refine zx fun _ => ?_)
      exact run_ret hC (rs := [.tmp 2, .tmp 3, .tmp 4]) rfl (resT rfl (resT rfl (resT rfl resN))) (fun _ h => h) ⟨by rw [headR, if_neg h, if_neg hb1, if_pos hb2, if_neg h4]; rfl, rfl, rfl⟩
  have hb2 : byte s 0 ≠ 97 := byte_eq hb0' h1
  repeat (first | refine zz ?_ | refine zx fun _ => ?_)
  refine run_cond rfl (fun h1 => ?_) (fun h1 => ?_)
  · have hb3 : byte s 0 = 114 := byte_eq hb0' h1
    repeat (first | refine zz ?_ | refine zx fun _ => ?_ | refine runL_q (qt_strLo (n := 1) tok rfl rfl rfl (fun _ => hp)) rfl rfl rfl ?_ | refine runL_q (qt_callF rfl (fun _ => refNum_ok _ _ (rest1 s))) rfl rfl rfl ?_)
    refine run_cond rfl (fun h3 => ?_) (fun h3 => ?_)
    · have h4 : (refNum (rest1 s)).2.2 = 0 ∧ 32 < (refNum (rest1 s)).1 := by simpa using h3
      repeat (first | refine zz ?_ | refine zx fun _ => ?_)
      exact run_ret hC (rs := [.tmp 2, .tmp 3, .tmp 4]) rfl (resT rfl (resT rfl (resT rfl resN))) (fun _ h => h) ⟨by rw [headR, if_neg h, if_neg hb1, if_neg hb2, if_pos hb3, if_pos h4]; rfl, rfl, rfl⟩
    · have h4 : ¬ ((refNum (rest1 s)).2.2 = 0 ∧ 32 < (refNum (rest1 s)).1) := by simpa using h3
      repeat (first | refine zz ?_ | refine zx fun _ => ?_)
      exact run_ret hC (rs := [.tmp 2, .tmp 3, .tmp 4]) rfl (resT rfl (resT rfl (resT rfl resN))) (fun _ h => h) ⟨by rw [headR, if_neg h, if_neg hb1, if_neg hb2, if_pos hb3, if_neg h4]; rfl, rfl, rfl⟩
  have hb3 : byte s 0 ≠ 114 := byte_eq hb0' h1
  repeat (first | refine zz ?_ | refine zx fun _ => ?_)
  refine run_cond rfl (fun h1 => ?_) (fun h1 => ?_)
  · have hb4 : byte s 0 = 104 := byte_eq hb0' h1
    repeat (first | refine zz ?_ | refine zx fun _ => ?_)
    exact run_ret hC (rs := [.tmp 2, .tmp 3, .tmp 4]) rfl (resT rfl (resT rfl (resT rfl resN))) (fun _ h => h) ⟨by rw [headR, if_neg h, if_neg hb1, if_neg hb2, if_neg hb3, if_pos hb4]; rfl, rfl, rfl⟩
  have hb4 : byte s 0 ≠ 104 := byte_eq hb0' h1
  repeat (first | refine zz ?_ | refine zx fun _ => ?_)
  refine run_cond rfl (fun h1 => ?_) (fun h1 => ?_)
  · have hb5 : byte s 0 = 109 := byte_eq hb0' h1
    repeat (first | refine zz ?_ | refine zx fun _ => ?_)
    exact run_ret hC (rs := [.tmp 2, .tmp 3, .tmp 4]) rfl (resT rfl (resT rfl (resT rfl resN))) (fun _ h => h) ⟨by rw [headR, if_neg h, if_neg hb1, if_neg hb2, if_neg hb3, if_neg hb4, if_pos hb5]; rfl, rfl, rfl⟩
  have hb5 : byte s 0 ≠ 109 := byte_eq hb0' h1
  repeat (first | refine zz ?_ | refine zx fun _ => ?_)
  refine run_cond rfl (fun h1 => ?_) (fun h1 => ?_)
  · have hb6 : byte s 0 = 115 := byte_eq hb0' h1
    repeat (first | refine zz ?_ | refine zx fun _ => ?_)
    exact run_ret hC (rs := [.tmp 2, .tmp 3, .tmp 4]) rfl (resT rfl (resT rfl (resT rfl resN))) (fun _ h => h) ⟨by rw [headR, if_neg h, if_neg hb1, if_neg hb2, if_neg hb3, if_neg hb4, if_neg hb5, if_pos hb6]; rfl, rfl, rfl⟩
  have hb6 : byte s 0 ≠ 115 := byte_eq hb0' h1
  repeat (first | refine zz ?_ | refine zx fun _ => ?_)
  exact run_ret hC (rs := [.tmp 2, .tmp 3, .tmp 4]) rfl (resT rfl (resT rfl (resT rfl resN))) (fun _ h => h) ⟨by rw [headR, if_neg h, if_neg hb1, if_neg hb2, if_neg hb3, if_neg hb4, if_neg hb5, if_neg hb6]; rfl, rfl, rfl⟩
end Go.Proofs.YtkjljcgbnikmkaaGreatDoor
namespace Go.Proofs.YtkjljcgbnikmkaaGreatDoor
open Go.Chi
set_option maxRecDepth 10000
def rloop (f : ByteArray → Int × Int) (s : ByteArray) : Nat → Int → Int → Int × Int
  | 0, n, e => (n, e)
  | i + 1, n, e => if e ≠ 0 then (n, e) else rloop f s i (IntKind.i64.wrap (n + (f (s.extract n.toNat s.size)).1)) (f (s.extract n.toNat s.size)).2
def finR (r : Int × Int) : Int × Int := if r.2 ≠ 0 then (0, r.2) else (r.1, 0)
def refRead : Nat → ByteArray → Int × Int
  | 0, _ => (0, 60)
  | k + 1, s => finR (rloop (refRead k) s (headR s).2.1.toNat (headR s).1 (headR s).2.2)
theorem rloop_err (f : ByteArray → Int × Int) (s : ByteArray) {e : Int} (he : e ≠ 0) : ∀ i n, rloop f s i n e = (n, e)
  | 0, _ => rfl
  | i + 1, n => by rw [rloop, if_pos he]
theorem ext_ext (w : ByteArray) {a n : Nat} (_ha : a ≤ w.size) (_hn : a + n ≤ w.size) : (w.extract a w.size).extract n (w.extract a w.size).size = w.extract (a + n) w.size := by
  have hz : (w.extract a w.size).size = w.size - a := by simp
  rw [hz]
  apply ByteArray.ext
  apply Array.ext'
  simp only [ByteArray.data_extract, Array.toList_extract, List.extract_eq_take_drop]
  have hl : w.data.toList.length = w.size := by simp
  generalize w.data.toList = l at *
  rw [← hl] at _ha _hn ⊢
  rw [List.take_of_length_le (l := l.drop a) (by simp), List.drop_drop, Nat.sub_sub]
theorem refNum_err {s : ByteArray} (h : (refNum s).2.2 ≠ 0) : (refNum s).1 = 0 := by
  unfold refNum at h ⊢
  repeat' split
  all_goals first | rfl | (rename_i h1 h2 h3 h4; simp [h1, h2, h3, h4] at h) | (rename_i h1 h2; simp [h1, h2] at h)
theorem headR_p32 (s : ByteArray) : (headR s).2.1 ≤ 32 := by
  unfold headR
  repeat' split
  all_goals try (simp; done)
  rename_i h1
  simp only
  by_cases he : (refNum (rest1 s)).2.2 = 0
  · have hv0 := numR_pos (rest1 s)
    rw [refNum_imp he] at hv0
    have h5 : ¬ 32 < (refNum (rest1 s)).1 := fun h5 => h1 ⟨he, h5⟩
    obtain ⟨v, hv⟩ : ∃ v : Nat, (refNum (rest1 s)).1 = v := ⟨(refNum (rest1 s)).1.toNat, by omega⟩
    rw [hv, wrap64_nat (by omega)]
    omega
  · rw [refNum_err he]; decide
theorem refRead_imp : ∀ (k : Nat) (s : ByteArray), s.size < 4611686018427387904 → (refRead k s).2 = 0 → ∃ n : Nat, (refRead k s).1 = n ∧ n ≤ s.size ∧ ∀ (w : ByteArray) (a : Nat), a ≤ w.size → w.extract a w.size = s → walkR w k a = .ok (a + n)
  | 0, s, _, h => by cases h
  | k + 1, s, hs, h => by
    rw [refRead] at h ⊢
    have h1 : (headR s).2.2 = 0 := by
      apply Classical.byContradiction
      intro h1
      rw [rloop_err _ _ h1, finR, if_pos h1] at h
      exact h1 h
    obtain ⟨n0, p0, hh, hf⟩ := headR_imp hs h1
    have hfl := frontR_len hf
    rw [hh] at h ⊢
    simp only [Int.toNat_natCast] at h ⊢
    have key : ∀ (i n : Nat), n ≤ s.size → (rloop (refRead k) s i (n : Int) 0).2 = 0 → ∃ m : Nat, (rloop (refRead k) s i (n : Int) 0).1 = m ∧ m ≤ s.size ∧ ∀ (w : ByteArray) (a : Nat), a ≤ w.size → w.extract a w.size = s → iter (walkR w k) i (a + n) = .ok (a + m) := by
      intro i
      induction i with
      | zero => intro n hn _; exact ⟨n, rfl, hn, fun w a _ _ => rfl⟩
      | succ i ih =>
        intro n hn hr
        rw [rloop, if_neg (by simp), Int.toNat_natCast] at hr ⊢
        have he : (refRead k (s.extract n s.size)).2 = 0 := by
          apply Classical.byContradiction
          intro he
          rw [rloop_err _ _ he] at hr
          exact he hr
        have hz : (s.extract n s.size).size = s.size - n := by simp
        obtain ⟨m, hm, hml, hmw⟩ := refRead_imp k (s.extract n s.size) (by omega) he
        rw [he, hm, show (n : Int) + (m : Int) = ((n + m : Nat) : Int) by omega, wrap64_nat (by omega)] at hr ⊢
        obtain ⟨m2, hm2, hm2l, hm2w⟩ := ih (n + m) (by omega) hr
        refine ⟨m2, hm2, hm2l, fun w a ha hw => ?_⟩
        have hws : w.size - a = s.size := by rw [← hw]; simp
        have h5 := hmw w (a + n) (by omega) (by rw [← hw, ext_ext w ha (by omega)])
        rw [iter, h5]
        have h6 := hm2w w a ha hw
        rw [← h6]
        simp only [Nat.add_assoc]
    have h2 : (rloop (refRead k) s p0 (n0 : Int) 0).2 = 0 := by
      apply Classical.byContradiction
      intro h2
      rw [finR, if_pos h2] at h
      exact h2 h
    obtain ⟨m, hm, hml, hmw⟩ := key p0 n0 hfl.2.1 h2
    refine ⟨m, by rw [finR, if_neg (by simp [h2])]; exact hm, hml, fun w a ha hw => ?_⟩
    rw [walkR, hw, hf]
    exact hmw w a ha hw
set_option maxRecDepth 10000 in
set_option maxHeartbeats 8000000 in
theorem refread_ok (M : Mem) (k : Nat) : k ≤ 16 → ∀ (L : HL) (s : ByteArray), s.size < 4611686018427387904 → TrQ Tryz.prog 141 [.string s, .int .i64 ((17 - k : Nat) : Int)] M L (.tuple ⟨[.int .i64 (refRead k s).1, .int .i64 (refRead k s).2]⟩) := by
  induction k with
  | zero =>
    intro _ L s hs
    refine Tr.intro 44 Tryz.func141 rfl rfl Tryz.call141 rfl ?_
    intro C hC hro
    repeat (first | refine zz ?_ | refine zx fun _ => ?_)
    refine run_cond rfl (fun h => ?_) (fun h => by cases h)
    repeat (first | refine zz ?_ | refine zx fun _ => ?_)
    exact run_ret hC (rs := [.tmp 4, .tmp 5]) rfl (resT rfl (resT rfl resN)) (fun _ h => h) ⟨rfl, rfl, rfl⟩
  | succ k ih =>
    intro hk L s hs
    refine Tr.intro 44 Tryz.func141 rfl rfl Tryz.call141 rfl ?_
    intro C hC hro
    repeat (first | refine zz ?_ | refine zx fun _ => ?_)
    refine run_cond rfl (fun h => ?_) (fun h => ?_)
    · exfalso
      have : (16 : Int) < ((17 - (k + 1) : Nat) : Int) := by simpa using h
      omega
    repeat (first | refine zz ?_ | refine zx fun _ => ?_ | refine runL_q (qt_callF rfl (fun _ => head_ok _ _ s hs)) rfl rfl rfl ?_)
    have hdef : refRead (k + 1) s = finR (rloop (refRead k) s (headR s).2.1.toNat (headR s).1 (headR s).2.2) := rfl
    have hini : (headR s).2.2 = 0 → ∃ m : Nat, (headR s).1 = m ∧ m ≤ s.size := fun h1 => by
      obtain ⟨n0, p0, hh, hf⟩ := headR_imp hs h1
      exact ⟨n0, by rw [hh], (frontR_len hf).2.1⟩
    obtain ⟨pt, hpt⟩ : ∃ p : Nat, (headR s).2.1.toNat = p := ⟨_, rfl⟩
    have hpt' : (headR s).2.1 ≤ (pt : Int) := by omega
    have h32 := headR_p32 s
    rw [hpt] at hdef
    generalize (headR s).2.1 = Z at *
    generalize (headR s).2.2 = e0 at *
    generalize (headR s).1 = n0 at *
    refine run_loopN (fun i σ1 M1 L1 => i ≤ pt ∧ ∃ n e : Int, (e = 0 → ∃ m : Nat, n = m ∧ m ≤ s.size) ∧ rloop (refRead k) s (pt - i) n e = rloop (refRead k) s pt n0 e0 ∧ σ1 = [(0, .string s), (1, .int .i64 ((17 - (k + 1) : Nat) : Int)), (6, .int .i64 n), (7, .int .i64 Z), (8, .int .i64 e), (9, .int .i64 (i : Int))] ∧ M = M1 ∧ L = L1) pt [(0, .string s), (1, .int .i64 ((17 - (k + 1) : Nat) : Int)), (6, .int .i64 n0), (7, .int .i64 Z), (8, .int .i64 e0), (9, .int .i64 ((0 : Nat) : Int))] ?_ ⟨Nat.zero_le _, n0, e0, hini, rfl, rfl, rfl, rfl⟩ (fun j _ _ _ h => h.1) ?_
    · exact ⟨rfl, rfl, rfl, rfl, rfl, rfl, trivial⟩
    rintro i _ _ _ ⟨hi, n, e, hne, hit, rfl, rfl, rfl⟩ hnext
    have hfin : ∀ σ' : Env, (i = pt ∨ e ≠ 0) → lks σ' 6 = some (.int .i64 n) → lks σ' 8 = some (.int .i64 e) → rloop (refRead k) s pt n0 e0 = (n, e) := by
      intro σ' h1 _ _
      rw [← hit]
      rcases h1 with h1 | h1
      · rw [h1, Nat.sub_self]; rfl
      · exact rloop_err _ _ h1 _ _
    repeat (first | refine zz ?_ | refine zx fun _ => ?_)
    refine run_cond rfl (fun h5 => ?_) (fun h5 => ?_)
    · have h6 : (i : Int) < Z ∧ e = 0 := by simpa using h5
      obtain ⟨hiz, rfl⟩ := h6
      have hik : i < pt := by omega
      obtain ⟨m, rfl, hm⟩ := hne rfl
      have hz : (s.extract m s.size).size = s.size - m := by simp
      repeat (first | refine zz ?_ | refine zx fun _ => ?_ | refine runL_q (qt_strLo (n := m) tok rfl rfl rfl (fun _ => hm)) rfl rfl rfl ?_)
      refine runL_as 33 (.int .i64 ((17 - k : Nat) : Int)) rfl (by rw [wrap64_succ (by omega), show 17 - (k + 1) + 1 = 17 - k by omega]) ?_
      repeat (first | refine zz ?_ | refine zx fun _ => ?_ | refine runL_q (qt_callF rfl (fun _ => ih (by omega) _ (s.extract m s.size) (by omega))) rfl rfl rfl ?_)
      refine run_sub' (hnext _ _ _ ⟨hik, IntKind.i64.wrap ((m : Int) + (refRead k (s.extract m s.size)).1), (refRead k (s.extract m s.size)).2, fun he => ?_, ?_, rfl, rfl, rfl⟩) ⟨rfl, rfl, rfl, rfl, rfl, lk_succ rfl (by omega), trivial⟩
      · obtain ⟨m2, hm2, hm2l, _⟩ := refRead_imp k (s.extract m s.size) (by omega) he
        exact ⟨m + m2, by rw [hm2, show (m : Int) + (m2 : Int) = ((m + m2 : Nat) : Int) by omega, wrap64_nat (by omega)], by omega⟩
      · rw [← hit, show pt - i = (pt - (i + 1)) + 1 by omega, rloop, if_neg (by simp), Int.toNat_natCast]
    · have h6 : i = pt ∨ e ≠ 0 := by
        by_cases he : e = 0
        · left
          subst he
          have : Z ≤ (i : Int) := by simpa using h5
          omega
        · exact .inr he
      have hr := hfin [(6, .int .i64 n), (8, .int .i64 e)] h6 rfl rfl
      repeat (first | refine zz ?_ | refine zx fun _ => ?_)
      refine run_cond rfl (fun h7 => ?_) (fun h7 => ?_)
      · have h8 : e ≠ 0 := by simpa using h7
        repeat (first | refine zz ?_ | refine zx fun _ => ?_)
        exact run_ret hC (rs := [.tmp 4, .tmp 5]) rfl (resT rfl (resT rfl resN)) (fun _ h => h) ⟨by rw [hdef, hr, finR, if_pos h8]; rfl, rfl, rfl⟩
      · have h8 : e = 0 := by simpa using h7
        subst h8
        repeat (first | refine zz ?_ | refine zx fun _ => ?_)
        exact run_ret hC (rs := [.tmp 4, .tmp 5]) rfl (resT rfl (resT rfl resN)) (fun _ h => h) ⟨by rw [hdef, hr, finR, if_neg (by simp)]; rfl, rfl, rfl⟩
def topR (s : ByteArray) : Int × Int := if (refRead 16 s).2 ≠ 0 then (0, (refRead 16 s).2) else if 16384 < (refRead 16 s).1 then (0, 5) else ((refRead 16 s).1, 0)
theorem refRd_ok (M : Mem) (L : HL) (s : ByteArray) (hs : s.size < 4611686018427387904) : TrQ Tryz.prog 131 [.string s] M L (.tuple ⟨[.int .i64 (topR s).1, .int .i64 (topR s).2]⟩) := by
  refine Tr.intro 17 Tryz.func131 rfl rfl Tryz.call131 rfl ?_
  intro C hC hro
  repeat (first | refine zz ?_ | refine zx fun _ => ?_ | refine runL_q (qt_callF rfl (fun _ => refread_ok _ 16 (by omega) _ s hs)) rfl rfl rfl ?_)
  refine run_cond rfl (fun h => ?_) (fun h => ?_)
  · have h1 : (refRead 16 s).2 ≠ 0 := by simpa using h
    repeat (first | refine zz ?_ | refine zx fun _ => ?_)
    exact run_ret hC (rs := [.tmp 2, .tmp 3]) rfl (resT rfl (resT rfl resN)) (fun _ h => h) ⟨by rw [topR, if_pos h1]; rfl, rfl, rfl⟩
  have h1 : ¬ (refRead 16 s).2 ≠ 0 := by simpa using h
  repeat (first | refine zz ?_ | refine zx fun _ => ?_)
  refine run_cond rfl (fun h => ?_) (fun h => ?_)
  · have h2 : 16384 < (refRead 16 s).1 := by simpa using h
    repeat (first | refine zz ?_ | refine zx fun _ => ?_)
    exact run_ret hC (rs := [.tmp 2, .tmp 3]) rfl (resT rfl (resT rfl resN)) (fun _ h => h) ⟨by rw [topR, if_neg h1, if_pos h2]; rfl, rfl, rfl⟩
  · have h2 : ¬ 16384 < (refRead 16 s).1 := by simpa using h
    repeat (first | refine zz ?_ | refine zx fun _ => ?_)
    exact run_ret hC (rs := [.tmp 2, .tmp 3]) rfl (resT rfl (resT rfl resN)) (fun _ h => h) ⟨by rw [topR, if_neg h1, if_neg h2]; rfl, rfl, rfl⟩
def refCheck (s : ByteArray) : Int := if (topR s).2 ≠ 0 then (topR s).2 else if (topR s).1 ≠ (s.size : Int) then 7 else 0
theorem refCheck_ok (M : Mem) (L : HL) (s : ByteArray) (hs : s.size < 4611686018427387904) : TrQ Tryz.prog 125 [.string s] M L (.int .i64 (refCheck s)) := by
  refine Tr.intro 17 Tryz.func125 rfl rfl Tryz.call125 rfl ?_
  intro C hC hro
  repeat (first | refine zz ?_ | refine zx fun _ => ?_ | refine runL_q (qt_callF rfl (fun _ => refRd_ok _ _ s hs)) rfl rfl rfl ?_)
  refine run_cond rfl (fun h => ?_) (fun h => ?_)
  · have h1 : (topR s).2 ≠ 0 := by simpa using h
    repeat (first | refine zz ?_ | refine zx fun _ => ?_)
    exact run_ret hC (rs := [.tmp 2]) rfl (resT rfl resN) (fun _ h => h) ⟨by rw [refCheck, if_pos h1]; rfl, rfl, rfl⟩
  have h1 : ¬ (topR s).2 ≠ 0 := by simpa using h
  repeat (first | refine zz ?_ | refine zx fun _ => ?_)
  refine run_cond rfl (fun h => ?_) (fun h => ?_)
  · have h2 : (topR s).1 ≠ (s.size : Int) := by simpa using h
    repeat (first | refine zz ?_ | refine zx fun _ => ?_)
    exact run_ret hC (rs := [.tmp 2]) rfl (resT rfl resN) (fun _ h => h) ⟨by rw [refCheck, if_neg h1, if_pos h2]; rfl, rfl, rfl⟩
  · have h2 : ¬ (topR s).1 ≠ (s.size : Int) := by simpa using h
    repeat (first | refine zz ?_ | refine zx fun _ => ?_)
    exact run_ret hC (rs := [.tmp 2]) rfl (resT rfl resN) (fun _ h => h) ⟨by rw [refCheck, if_neg h1, if_neg h2]; rfl, rfl, rfl⟩
theorem ext_all (s : ByteArray) : s.extract 0 s.size = s := by
  apply ByteArray.ext
  simp
end Go.Proofs.YtkjljcgbnikmkaaGreatDoor
namespace Go.Proofs.YtkjljcgbnikmkaaGreatDoor
open Go.Chi
def rawV (s : ByteArray) : Nat → Nat
  | 0 => 0
  | i + 1 => rawV s i * 256 + (byte s (i + 1)).toNat
theorem rawV_lt (s : ByteArray) : ∀ i, rawV s i < 256 ^ i
  | 0 => show (0 : Nat) < 1 by decide
  | i + 1 => by
    have := rawV_lt s i
    have hb := byte_pos s (i + 1)
    rw [rawV, Nat.pow_succ]
    omega
theorem refV_raw (s : ByteArray) : ∀ i, i ≤ 8 → refV s i = (rawV s i : Int)
  | 0, _ => rfl
  | i + 1, h => by
    have ih := refV_raw s i (by omega)
    have hb := byte_pos s (i + 1)
    have hlt := rawV_lt s i
    have h7 : 256 ^ i ≤ 256 ^ 7 := Nat.pow_le_pow_right (by decide) (by omega)
    have h7' : rawV s i < 72057594037927936 := by
      have : (256 : Nat) ^ 7 = 72057594037927936 := by decide
      omega
    rw [refV, ih, rawV, u64_wrap, u64_wrap, u64_wrap]
    omega
theorem raw_one (s : ByteArray) : rawV s 1 = (byte s 1).toNat := by simp [rawV]
theorem raw_pos {s : ByteArray} (h : byte s 1 ≠ 0) : ∀ i, rawV s (i + 1) ≠ 0
  | 0 => by
    have hb := byte_pos s 1
    show rawV s 1 ≠ 0
    rw [raw_one]
    omega
  | i + 1 => by
    have := raw_pos h i
    rw [rawV]
    omega
theorem ext_snoc (s : ByteArray) {i : Nat} (h : i + 1 < s.size) : s.extract 1 (i + 2) = s.extract 1 (i + 1) ++ bytesI [byte s (i + 1)] := by
  have hb : bytesI [byte s (i + 1)] = ⟨#[s[i + 1]'h]⟩ := by
    have hx : byte s (i + 1) = ((s[i + 1]'h).toNat : Int) := by rw [byte, getElem?_pos s (i + 1) h]; rfl
    rw [hx]
    simp [bytesI]
    rfl
  rw [hb]
  apply ByteArray.ext
  apply Array.ext'
  simp only [ByteArray.data_append, ByteArray.data_extract, Array.toList_append, Array.toList_extract, List.extract_eq_take_drop]
  have hl : s.data.toList.length = s.size := by simp
  have hg : (s[i + 1]'h) = s.data.toList[i + 1]'(by omega) := rfl
  rw [hg]
  have h1 : i + 2 - 1 = i + 1 := by omega
  have h2 : i + 1 - 1 = i := by omega
  rw [h1, h2, List.take_add_one, List.getElem?_drop, show 1 + i = i + 1 by omega, List.getElem?_eq_getElem (by omega)]
  rfl
theorem dig_raw {s : ByteArray} (h : byte s 1 ≠ 0) : ∀ i, i + 1 < s.size → digN (rawV s (i + 1)) = s.extract 1 (i + 2)
  | 0, hs => by
    have hb := byte_pos s 1
    have h0 : rawV s 1 ≠ 0 := raw_pos h 0
    have hd : digN (rawV s 1) = digN (rawV s 1 / 256) ++ bytesI [((rawV s 1 % 256 : Nat) : Int)] := by rw [digN, if_neg h0]
    rw [hd, ext_snoc s hs]
    have e1 : rawV s 1 / 256 = 0 := by rw [raw_one]; omega
    have e2 : ((rawV s 1 % 256 : Nat) : Int) = byte s 1 := by rw [raw_one]; omega
    rw [e1, e2, digN_zero]
    congr 1
    apply ByteArray.ext
    simp
  | i + 1, hs => by
    have ih := dig_raw h i (by omega)
    have hb := byte_pos s (i + 2)
    have h0 : rawV s (i + 2) ≠ 0 := raw_pos h (i + 1)
    have hd : digN (rawV s (i + 2)) = digN (rawV s (i + 2) / 256) ++ bytesI [((rawV s (i + 2) % 256 : Nat) : Int)] := by rw [digN, if_neg h0]
    have e0 : rawV s (i + 2) = rawV s (i + 1) * 256 + (byte s (i + 2)).toNat := rfl
    have e1 : rawV s (i + 2) / 256 = rawV s (i + 1) := by omega
    have e2 : ((rawV s (i + 2) % 256 : Nat) : Int) = byte s (i + 2) := by omega
    rw [show i + 1 + 1 = i + 2 by omega, hd, e1, e2, ih, ext_snoc s hs]
theorem ext_head (s : ByteArray) {n : Nat} (h : 0 < s.size) (hn : 1 ≤ n) : s.extract 0 n = bytesI [byte s 0] ++ s.extract 1 n := by
  have hb : bytesI [byte s 0] = ⟨#[s[0]'h]⟩ := by
    have hx : byte s 0 = ((s[0]'h).toNat : Int) := by rw [byte, getElem?_pos s 0 h]; rfl
    rw [hx]
    simp [bytesI]
    rfl
  rw [hb]
  apply ByteArray.ext
  apply Array.ext'
  simp only [ByteArray.data_append, ByteArray.data_extract, Array.toList_append, Array.toList_extract, List.extract_eq_take_drop]
  have hl : s.data.toList.length = s.size := by simp
  have hg : s.data.toList[0]? = some (s[0]'h) := by rw [List.getElem?_eq_getElem (by omega)]; rfl
  generalize (s[0]'h) = y at hg ⊢
  cases hd : s.data.toList with
  | nil => rw [hd] at hl; simp at hl; omega
  | cons x l =>
    rw [hd] at hg
    simp at hg
    obtain ⟨m, rfl⟩ : ∃ m, n = m + 1 := ⟨n - 1, by omega⟩
    simp [hg]
theorem refNum_eq (s : ByteArray) : refNum s = numR s := by
  by_cases he : (refNum s).2.2 = 0
  · exact (refNum_imp he).symm
  have hb := byte_pos s 0
  have hr := rest1_size (s := s)
  unfold refNum at he ⊢
  unfold numR
  by_cases h0 : s.size = 0
  · rw [if_pos h0, if_pos h0]
  rw [if_neg h0] at he ⊢
  rw [if_neg h0]
  by_cases h1 : byte s 0 < 248
  · rw [if_pos h1] at he; exact absurd rfl he
  rw [if_neg h1] at he ⊢
  rw [if_neg (show ¬ byte s 0 ≤ 247 by omega)]
  have hk : (refK s : Int) = byte s 0 - 247 := by unfold refK; omega
  by_cases h2 : s.size < refK s + 1
  · rw [if_pos h2, if_pos (show ((rest1 s).size : Int) < byte s 0 - 247 by omega)]
  rw [if_neg h2] at he ⊢
  rw [if_neg (show ¬ ((rest1 s).size : Int) < byte s 0 - 247 by omega)]
  by_cases h3 : numB (refV s (refK s)).toNat ≠ s.extract 0 (refK s + 1)
  · rw [if_pos h3]
    have hz : (byte s 0 - 247).toNat = refK s := rfl
    rw [hz, ← refV_eq s (refK s), byte_rest]
    by_cases h4 : byte s (0 + 1) = 0 ∨ refV s (refK s) ≤ 247
    · rw [if_pos h4]
    · exfalso
      apply h3
      have h5 : byte s 1 ≠ 0 := fun e => h4 (.inl e)
      have h6 : ¬ refV s (refK s) ≤ 247 := fun e => h4 (.inr e)
      have hk8 : refK s ≤ 8 := by omega
      have hraw := refV_raw s (refK s) hk8
      obtain ⟨m, hm⟩ : ∃ m, refK s = m + 1 := ⟨refK s - 1, by omega⟩
      have hd := dig_raw h5 m (by omega)
      rw [hraw, Int.toNat_natCast, numB, if_neg (by omega), hm, hd, show m + 1 + 1 = m + 2 by omega, ext_head s (n := m + 2) (by omega) (by omega)]
      congr 2
      have hsz : (s.extract 1 (m + 2)).size = m + 1 := by simp; omega
      rw [hsz]
      have e1 : IntKind.i64.wrap (247 + ((m + 1 : Nat) : Int)) = ((248 + m : Nat) : Int) := by
        rw [show (247 : Int) + ((m + 1 : Nat) : Int) = ((248 + m : Nat) : Int) by omega, wrap64_nat (by omega)]
      rw [e1, u8_nat (by omega)]
      congr 1
      omega
  · rw [if_neg h3] at he
    exact absurd rfl he
theorem refText_eq (s : ByteArray) (most : Nat) : refText s most = textR s most := by
  rw [refText, textR, refNum_eq]
theorem abc_all' : ∀ n : Fin 128, inAbc ((n.val : Nat) : Int) = true → nameB ((n.val : Nat) : Int) = true := by decide +kernel
theorem named_imp {s : ByteArray} : ∀ f p, s.size < p + f → namedAt s f p = true → ∀ i, p ≤ i → i < s.size → nameB (byte s i) = true
  | 0, p, hf, _, i, hi, hs => by omega
  | f + 1, p, hf, h, i, hi, hs => by
    have hp : p < s.size := by omega
    rw [namedAt, if_pos hp, Bool.and_eq_true] at h
    have hlow : (s[p]'hp).toNat < 128 := by
      apply Classical.byContradiction
      intro hn
      have := (decode_high s p hp (by omega)).1
      have h1 := h.1
      rw [inAbc, decide_eq_true_eq, runeIx, if_neg (by omega)] at h1
      omega
    rw [decode_ascii s p hp hlow] at h
    by_cases e : i = p
    · subst e
      have hx : byte s i = ((s[i]'hp).toNat : Int) := by rw [byte, getElem?_pos s i hp]; rfl
      rw [hx]
      exact abc_all' ⟨_, hlow⟩ h.1
    · exact named_imp f (p + 1) (by omega) h.2 i (by omega) hs
theorem name_eq (s : ByteArray) : nameR s = namedR s := by
  rw [Bool.eq_iff_iff]
  constructor
  · exact nameR_imp
  · intro h
    rw [namedR, Bool.and_eq_true] at h
    rw [nameR, h.2, Bool.and_true, List.all_eq_true]
    intro i hi
    exact named_imp _ 0 (by omega) h.1 i (Nat.zero_le _) (List.mem_range.1 hi)
end Go.Proofs.YtkjljcgbnikmkaaGreatDoor
namespace Go.Proofs.YtkjljcgbnikmkaaGreatDoor
open Go.Chi
theorem ba_ext {a b : ByteArray} (h : a.data.toList = b.data.toList) : a = b := ByteArray.ext (Array.ext' h)
theorem ba_app (a b : ByteArray) : (a ++ b).data.toList = a.data.toList ++ b.data.toList := by
  simp [ByteArray.data_append]
theorem ba_extract (a : ByteArray) (i j : Nat) : (a.extract i j).data.toList = (a.data.toList.take j).drop i := by
  simp [ByteArray.data_extract, List.extract_eq_take_drop, List.drop_take]
theorem ba_len (a : ByteArray) : a.data.toList.length = a.size := by simp
theorem ext_left (a b : ByteArray) : (a ++ b).extract 0 a.size = a := by
  apply ba_ext
  rw [ba_extract, ba_app, ← ba_len, List.take_left' rfl, List.drop_zero]
theorem ext_right (a b : ByteArray) : (a ++ b).extract a.size (a ++ b).size = b := by
  apply ba_ext
  rw [ba_extract, ← ba_len, ← ba_len, ba_app, List.take_of_length_le (Nat.le_refl _), List.drop_left' rfl]
theorem ext_split (s : ByteArray) {n : Nat} (_h : n ≤ s.size) : s = s.extract 0 n ++ s.extract n s.size := by
  apply ba_ext
  rw [ba_app, ba_extract, ba_extract, List.drop_zero, ← ba_len, List.take_of_length_le (l := s.data.toList) (Nat.le_refl _), List.take_append_drop]
theorem app_assoc (a b c : ByteArray) : a ++ b ++ c = a ++ (b ++ c) := by
  apply ba_ext
  simp only [ba_app, List.append_assoc]
theorem app_nil (a : ByteArray) : a ++ ⟨#[]⟩ = a := by
  apply ba_ext
  rw [ba_app]
  simp
theorem nil_app (a : ByteArray) : (⟨#[]⟩ : ByteArray) ++ a = a := by
  apply ba_ext
  rw [ba_app]
  simp
theorem app_left_inj {a b c : ByteArray} (h : a ++ b = a ++ c) : b = c := by
  apply ba_ext
  have := congrArg (fun x : ByteArray => x.data.toList) h
  simp only [ba_app] at this
  exact List.append_cancel_left this
theorem byte_left {a b : ByteArray} {i : Nat} (h : i < a.size) : byte (a ++ b) i = byte a i := by
  unfold byte
  rw [getElem?_pos (a ++ b) i (by rw [app_size]; omega), getElem?_pos a i h, ByteArray.getElem_append_left h]
theorem byte_right (a b : ByteArray) (i : Nat) : byte (a ++ b) (a.size + i) = byte b i := by
  unfold byte
  by_cases h : i < b.size
  · rw [getElem?_pos (a ++ b) _ (by rw [app_size]; omega), getElem?_pos b i h, ByteArray.getElem_append_right (by omega)]
    simp
  · rw [getElem?_neg (a ++ b) _ (by rw [app_size]; omega), getElem?_neg b i h]
theorem byte_one (x : Int) (h0 : 0 ≤ x) (h : x < 256) : byte (bytesI [x]) 0 = x := by
  have e : (bytesI [x])[0]? = some (UInt8.ofNat x.toNat) := rfl
  unfold byte
  rw [e]
  simp
  omega
theorem ext_one {s : ByteArray} (h : 0 < s.size) : s.extract 0 1 = bytesI [byte s 0] := by
  have e : byte s 0 = ((s[0]'h).toNat : Int) := by unfold byte; rw [getElem?_pos s 0 h]; rfl
  apply ba_ext
  rw [ba_extract, List.drop_zero, e]
  have hl : 0 < s.data.toList.length := by rw [ba_len]; exact h
  have hg : (s[0]'h) = s.data.toList[0]'hl := rfl
  rw [hg]
  obtain ⟨b, l, hbl⟩ : ∃ b l, s.data.toList = b :: l := by
    cases hs : s.data.toList with
    | nil => rw [hs] at hl; simp at hl
    | cons b l => exact ⟨b, l, rfl⟩
  have hb : s.data.toList[0]'hl = b := by simp only [hbl, List.getElem_cons_zero]
  rw [hb, hbl]
  show [b] = [UInt8.ofNat ((b.toNat : Int)).toNat]
  simp
theorem raw_dig : ∀ (v : Nat) (x : Int) (rest : ByteArray), rawV (bytesI [x] ++ (digN v ++ rest)) (digN v).size = v := by
  intro v
  induction v using Nat.strongRecOn with
  | _ v ih =>
    intro x rest
    by_cases h0 : v = 0
    · subst h0
      rw [digN_zero]
      rfl
    · have hd : digN v = digN (v / 256) ++ bytesI [((v % 256 : Nat) : Int)] := by rw [digN, if_neg h0]
      have hs : (digN v).size = (digN (v / 256)).size + 1 := by rw [hd, app_size, bytesI_one]
      rw [hs, hd, rawV, app_assoc, ih (v / 256) (by omega) x (bytesI [((v % 256 : Nat) : Int)] ++ rest)]
      have e1 : (digN (v / 256)).size + 1 = (bytesI [x]).size + ((digN (v / 256)).size + 0) := by rw [bytesI_one]; omega
      rw [e1, byte_right, byte_right, byte_left (by rw [bytesI_one]; omega), byte_one _ (by omega) (by omega)]
      omega
theorem numB_size {v : Nat} (h : v < 18446744073709551616) : 1 ≤ (numB v).size ∧ (numB v).size ≤ 9 := by
  have := digN_len h
  unfold numB
  split
  · rw [bytesI_one]; omega
  · rw [app_size, bytesI_one]; omega
theorem numB_big {v : Nat} (h : ¬ v < 248) (hv : v < 18446744073709551616) : numB v = bytesI [((247 + (digN v).size : Nat) : Int)] ++ digN v ∧ 1 ≤ (digN v).size ∧ (digN v).size ≤ 8 := by
  have h8 := digN_len hv
  have h1 : 1 ≤ (digN v).size := by
    rw [digN, if_neg (by omega), app_size, bytesI_one]
    omega
  refine ⟨?_, h1, h8⟩
  rw [numB, if_neg h]
  congr 3
  rw [show (247 : Int) + ((digN v).size : Int) = ((247 + (digN v).size : Nat) : Int) by omega, wrap64_nat (by omega), u8_nat (by omega)]
theorem num_read {v : Nat} (hv : v < 18446744073709551616) (rest : ByteArray) : numR (numB v ++ rest) = ((v : Int), ((numB v).size : Int), 0) := by
  rw [← refNum_eq]
  by_cases h : v < 248
  · have hB : numB v = bytesI [(v : Int)] := by rw [numB, if_pos h, u8_nat (by omega)]
    have h0 : byte (numB v ++ rest) 0 = v := by rw [hB, byte_left (by rw [bytesI_one]; omega), byte_one _ (by omega) (by omega)]
    unfold refNum
    rw [if_neg (by rw [app_size, hB, bytesI_one]; omega), if_pos (by rw [h0]; omega), h0, hB, bytesI_one]
    rfl
  · obtain ⟨hB, h1, h8⟩ := numB_big h hv
    have h0 : byte (numB v ++ rest) 0 = ((247 + (digN v).size : Nat) : Int) := by
      rw [hB, app_assoc, byte_left (by rw [bytesI_one]; omega), byte_one _ (by omega) (by omega)]
    have hk : refK (numB v ++ rest) = (digN v).size := by
      unfold refK
      rw [h0]
      omega
    have hsz : (numB v).size = (digN v).size + 1 := by rw [hB, app_size, bytesI_one]; omega
    have hr : refV (numB v ++ rest) (digN v).size = (v : Int) := by
      rw [refV_raw _ _ h8, hB, app_assoc, raw_dig]
    unfold refNum
    rw [if_neg (by rw [app_size]; omega), if_neg (by rw [h0]; omega), hk, if_neg (by rw [app_size]; omega), hr, Int.toNat_natCast, ← hsz, ext_left, if_neg (by simp)]
theorem num_back {s : ByteArray} (h : (numR s).2.2 = 0) : ∃ v : Nat, v < 18446744073709551616 ∧ numR s = ((v : Int), ((numB v).size : Int), 0) ∧ s = numB v ++ s.extract (numB v).size s.size := by
  rw [← refNum_eq] at h ⊢
  have hb := byte_pos s 0
  unfold refNum at h ⊢
  split at h
  · cases h
  rename_i h0
  rw [if_neg h0]
  split at h
  · rename_i h1
    rw [if_pos h1]
    have hB : numB (byte s 0).toNat = bytesI [byte s 0] := by
      rw [numB, if_pos (by omega), u8_nat (by omega), Int.toNat_of_nonneg hb.1]
    refine ⟨(byte s 0).toNat, by omega, ?_, ?_⟩
    · rw [hB, bytesI_one, Int.toNat_of_nonneg hb.1]; rfl
    · rw [hB, bytesI_one, ← ext_one (by omega)]
      exact ext_split s (by omega)
  rename_i h1
  rw [if_neg h1]
  split at h
  · cases h
  rename_i h2
  rw [if_neg h2]
  split at h
  · cases h
  rename_i h3
  rw [if_neg h3]
  have hv := refV_pos s (refK s)
  have h3' : numB (refV s (refK s)).toNat = s.extract 0 (refK s + 1) := by simpa using h3
  have hsz : (numB (refV s (refK s)).toNat).size = refK s + 1 := by rw [h3']; simp; omega
  refine ⟨(refV s (refK s)).toNat, by omega, ?_, ?_⟩
  · rw [hsz, Int.toNat_of_nonneg hv.1]
  · rw [hsz, h3']
    exact ext_split s (by omega)
def textB (t : ByteArray) : ByteArray := numB t.size ++ t
theorem ext_mid (a b c : ByteArray) : (a ++ (b ++ c)).extract a.size (a.size + b.size) = b := by
  apply ba_ext
  rw [ba_extract, ba_app, ba_app, ← ba_len, ← ba_len, ← List.append_assoc, List.take_left' (by rw [List.length_append]), List.drop_left' rfl]
theorem text_read {t : ByteArray} {most : Nat} (h : t.size ≤ most) (hm : most < 4611686018427387904) (rest : ByteArray) : textR (textB t ++ rest) most = (t, ((textB t).size : Int), 0) := by
  have hn := num_read (v := t.size) (by omega) (t ++ rest)
  have hT : textB t ++ rest = numB t.size ++ (t ++ rest) := by rw [textB, app_assoc]
  have hz : (textB t).size = (numB t.size).size + t.size := app_size _ _
  unfold textR
  rw [hT, hn]
  simp only [ne_eq, not_true_eq_false, if_false]
  rw [if_neg (by omega), if_neg (by rw [app_size, app_size]; omega)]
  rw [Int.toNat_natCast, show (((numB t.size).size : Int) + (t.size : Int)).toNat = (numB t.size).size + t.size by omega, ext_mid, hz]
  congr 2
theorem text_back {s : ByteArray} {most : Nat} (h : (textR s most).2.2 = 0) : ∃ t : ByteArray, t.size ≤ most ∧ textR s most = (t, ((textB t).size : Int), 0) ∧ s = textB t ++ s.extract (textB t).size s.size := by
  unfold textR at h ⊢
  split at h
  · rename_i h1; exact absurd h h1
  rename_i h1
  have h1 : (numR s).2.2 = 0 := by simpa using h1
  obtain ⟨v, hv, hn, hs⟩ := num_back h1
  rw [hn] at h ⊢
  simp only [ne_eq, not_true_eq_false, if_false] at h ⊢
  split at h
  · cases h
  rename_i h2
  rw [if_neg h2]
  split at h
  · cases h
  rename_i h3
  rw [if_neg h3]
  have hsz := congrArg ByteArray.size hs
  rw [app_size] at hsz
  obtain ⟨r, hr⟩ : ∃ r, r = s.extract (numB v).size s.size := ⟨_, rfl⟩
  rw [← hr] at hs hsz
  have hrv : v ≤ r.size := by omega
  have hr2 := ext_split r hrv
  obtain ⟨t, ht⟩ : ∃ t, t = r.extract 0 v := ⟨_, rfl⟩
  have htz : t.size = v := by rw [ht]; simp; omega
  have hT : textB t = numB v ++ t := by rw [textB, htz]
  have hTz : (textB t).size = (numB v).size + v := by rw [hT, app_size, htz]
  have hall : s = textB t ++ r.extract v r.size := by
    rw [hT, app_assoc, ht, ← hr2]; exact hs
  refine ⟨t, by omega, ?_, ?_⟩
  · rw [Int.toNat_natCast, show (((numB v).size : Int) + (v : Int)).toNat = (numB v).size + v by omega, hTz]
    have : s.extract (numB v).size ((numB v).size + v) = t := by
      have e := ext_mid (numB v) t (r.extract v r.size)
      rw [htz] at e
      rw [← e, ← app_assoc, ← hT, ← hall]
    rw [this]
    congr 2
  · have e := ext_right (textB t) (r.extract v r.size)
    rw [← hall] at e
    rw [e]
    exact hall
end Go.Proofs.YtkjljcgbnikmkaaGreatDoor
namespace Go.Proofs.YtkjljcgbnikmkaaGreatDoor
open Go.Chi
theorem wrdN_congr {m m' : Nat → UInt8} {t : Nat} : ∀ {i : Nat}, (∀ x, x < 4 * t + i → m x = m' x) → wrdN m t i = wrdN m' t i
  | 0, _ => rfl
  | i + 1, h => by rw [wrdN, wrdN, wrdN_congr (fun x hx => h x (by omega)), h (4 * t + i) (by omega)]
theorem Wd_congr {x y : Nat → B32} (h : ∀ t, t < 16 → x t = y t) : ∀ t, Wd x t = Wd y t := by
  intro t
  induction t using Nat.strongRecOn with
  | _ t ih =>
    rw [Wd, Wd.eq_1 y]
    split
    · rename_i ht; exact h t ht
    · rename_i ht
      rw [ih (t - 16) (by omega), ih (t - 15) (by omega), ih (t - 7) (by omega), ih (t - 2) (by omega)]
theorem rnds_congr {K W W' : Nat → B32} (h : ∀ t, W t = W' t) (s : S8) : ∀ n, rnds K W n s = rnds K W' n s
  | 0 => rfl
  | n + 1 => by rw [rnds, rnds, rnds_congr h s n, h n]
theorem takeS_congr {m m' : Nat → UInt8} (s : S8) (h : ∀ i, i < 64 → m i = m' i) : takeS s m = takeS s m' := by
  unfold takeS
  rw [rnds_congr (Wd_congr (x := wrd m) (y := wrd m') fun t ht => wrdN_congr fun x hx => h x (by omega)) s 64]
def iv8 : S8 := ⟨0x6a09e667, 0xbb67ae85, 0x3c6ef372, 0xa54ff53a, 0x510e527f, 0x9b05688c, 0x1f83d9ab, 0x5be0cd19⟩
def foldB (T : List UInt8) : Nat → S8
  | 0 => iv8
  | k + 1 => takeS (foldB T k) (fun i => T.getD (64 * k + i) 0)
theorem getD_app {T x : List UInt8} {i : Nat} (h : i < T.length) : (T ++ x).getD i 0 = T.getD i 0 := by
  rw [List.getD_eq_getElem?_getD, List.getD_eq_getElem?_getD, List.getElem?_append_left h]
theorem foldB_app (T x : List UInt8) : ∀ k, 64 * k ≤ T.length → foldB (T ++ x) k = foldB T k
  | 0, _ => rfl
  | k + 1, h => by
    rw [foldB, foldB, foldB_app T x k (by omega)]
    exact takeS_congr _ fun i hi => getD_app (by omega)
structure ShOk (T : List UInt8) (s : S8) (m : Nat → UInt8) (n : Nat) : Prop where
  le : n ≤ T.length
  st : s = foldB T (n / 64)
  wait : ∀ i, i < n % 64 → m i = T.getD (64 * (n / 64) + i) 0
theorem ShOk.app {T : List UInt8} {s : S8} {m : Nat → UInt8} {n : Nat} (h : ShOk T s m n) (x : List UInt8) : ShOk (T ++ x) s m n := by
  have := h.le
  refine ⟨by rw [List.length_append]; omega, ?_, fun i hi => ?_⟩
  · rw [foldB_app T x _ (by omega)]; exact h.st
  · rw [getD_app (by omega)]; exact h.wait i hi
def putW (T : List UInt8) (n c : Nat) (m : Nat → UInt8) : Nat → UInt8 := fun i => if n % 64 ≤ i ∧ i < n % 64 + c then T.getD (64 * (n / 64) + i) 0 else m i
theorem ShOk.part {T : List UInt8} {s : S8} {m : Nat → UInt8} {n c : Nat} (h : ShOk T s m n) (hc : n + c ≤ T.length) (hlt : n % 64 + c < 64) : ShOk T s (putW T n c m) (n + c) := by
  have e1 : (n + c) / 64 = n / 64 := by omega
  have e2 : (n + c) % 64 = n % 64 + c := by omega
  refine ⟨hc, by rw [e1]; exact h.st, fun i hi => ?_⟩
  rw [e2] at hi
  rw [e1]
  unfold putW
  split
  · rfl
  · rename_i hn; exact h.wait i (by omega)
theorem ShOk.full {T : List UInt8} {s : S8} {m : Nat → UInt8} {n c : Nat} (h : ShOk T s m n) (hc : n + c ≤ T.length) (heq : n % 64 + c = 64) : ShOk T (takeS s (putW T n c m)) (putW T n c m) (n + c) := by
  have e1 : (n + c) / 64 = n / 64 + 1 := by omega
  have e2 : (n + c) % 64 = 0 := by omega
  refine ⟨hc, ?_, fun i hi => by rw [e2] at hi; exact absurd hi (Nat.not_lt_zero _)⟩
  rw [e1, foldB, h.st]
  refine takeS_congr _ fun i hi => ?_
  unfold putW
  split
  · rfl
  · rename_i hn; exact h.wait i (by omega)
theorem sh_fill (s : S8) (m : Nat → UInt8) {n N c : Nat} {T l : List UInt8} (ha : n % 64 + c ≤ 64) (hl : l.length = c) (h : ∀ i, i < c → l[i]? = some (T.getD (64 * (n / 64) + (n % 64 + i)) 0)) :
    setSeg (shC s m N) (0 + 8 + n % 64 * 1) (bC l) = shC s (putW T n c m) N := by
  apply List.ext_getElem?
  intro j
  have hbl : (bC l).length = c := by rw [bC_len, hl]
  have hlen := sh_len s m N
  unfold setSeg
  rw [List.append_assoc, hbl]
  have e8 : 0 + 8 + n % 64 * 1 = 8 + n % 64 := by omega
  rw [e8]
  by_cases c1 : j < 8 + n % 64
  · rw [List.getElem?_append_left (by rw [List.length_take]; omega), List.getElem?_take, if_pos c1]
    by_cases c0 : j < 8
    · unfold shC
      rw [List.getElem?_append_left (by simpa [S8.cells] using c0), List.getElem?_append_left (by simpa [S8.cells] using c0)]
    · rw [sh_wait s m N (i := j - 8) (by omega) (by omega), sh_wait s _ N (i := j - 8) (by omega) (by omega)]
      unfold putW
      rw [if_neg (by omega)]
  · rw [List.getElem?_append_right (by rw [List.length_take]; omega), List.length_take, Nat.min_eq_left (by omega)]
    by_cases c2 : j < 8 + n % 64 + c
    · rw [List.getElem?_append_left (by omega), sh_wait s _ N (i := j - 8) (by omega) (by omega)]
      unfold bC putW
      rw [List.getElem?_map, h _ (by omega), if_pos (by omega), Option.map_some, show n % 64 + (j - (8 + n % 64)) = j - 8 by omega]
      rfl
    · rw [List.getElem?_append_right (by omega), hbl, List.getElem?_drop, show 8 + n % 64 + c + (j - (8 + n % 64) - c) = j by omega]
      by_cases c3 : j < 72
      · rw [sh_wait s m N (i := j - 8) (by omega) (by omega), sh_wait s _ N (i := j - 8) (by omega) (by omega)]
        unfold putW
        rw [if_neg (by omega)]
      · by_cases c4 : j = 72
        · subst c4; rw [sh_n, sh_n]
        · rw [List.getElem?_eq_none (by rw [sh_len]; omega), List.getElem?_eq_none (by rw [sh_len]; omega)]
def lenB (n : Nat) : Nat → List UInt8
  | 0 => []
  | j + 1 => lenB n j ++ [UInt8.ofNat (IntKind.u8.wrap (ishr .u64 ((8 * n : Nat) : Int) ((56 - 8 * j : Nat) : Int))).toNat]
def padZ (n : Nat) : Nat := (119 - n % 64) % 64
def padL (T : List UInt8) : List UInt8 := T ++ ([128] ++ (List.replicate (padZ T.length) 0 ++ lenB T.length 8))
theorem lenB_length (n : Nat) : ∀ j, (lenB n j).length = j
  | 0 => rfl
  | j + 1 => by rw [lenB, List.length_append, lenB_length n j]; rfl
theorem padL_length (T : List UInt8) : (padL T).length % 64 = 0 := by
  unfold padL padZ
  simp only [List.length_append, List.length_replicate, lenB_length, List.length_cons, List.length_nil]
  omega
def wbI (v : B32) : List Int := [IntKind.u8.wrap (ishr .u32 (U v) 24), IntKind.u8.wrap (ishr .u32 (U v) 16), IntKind.u8.wrap (ishr .u32 (U v) 8), IntKind.u8.wrap (U v)]
def outI (s : S8) : Nat → List Int
  | 0 => []
  | j + 1 => outI s j ++ wbI (s.get j)
theorem outI_length (s : S8) : ∀ j, (outI s j).length = 4 * j
  | 0 => rfl
  | j + 1 => by rw [outI, List.length_append, outI_length s j]; show 4 * j + 4 = _; omega
def sumB (T : List UInt8) : ByteArray := bytesI (outI (foldB (padL T) ((padL T).length / 64)) 8)
theorem sumB_size (T : List UInt8) : (sumB T).size = 32 := by
  unfold sumB
  rw [← ba_len, bytesI_list, List.length_map, outI_length]
attribute [irreducible] sumB
end Go.Proofs.YtkjljcgbnikmkaaGreatDoor
namespace Go.Proofs.YtkjljcgbnikmkaaGreatDoor
open Go.Chi
set_option maxRecDepth 10000
theorem ldE_all {T : TT} {t : TypeId} {cs : List Value} (ha : aggT T t = some true) (hi : sizeT T t = some cs.length) : ldE T t cs 0 = some (.agg ⟨cs⟩) := by
  have hs : segE cs 0 cs.length = some cs := by simp [segE]
  unfold ldE partL
  rw [ha]
  simp only [hi, hs]
theorem setE_all {cs cs' : List Value} (h : cs'.length = cs.length) : setE cs 0 cs' = some cs' := by
  rw [setE_of (by omega), setSeg_all h.symm]
set_option maxHeartbeats 4000000 in
theorem shNew_ok (M : Mem) (L : HL) : Tr Tryz.prog 92 [] M L (fun v M' L' => ∃ b, v = pt b ∧ M = M' ∧ L' = shB b iv8 (fun _ => 0) 0 :: L) := by
  refine Tr.intro 4 Tryz.func92 rfl rfl Tryz.call92 rfl ?_
  intro C hC hro
  repeat (first | refine zz ?_ | refine zx fun _ => ?_ | refine rq (Qt.as (v' := .agg ⟨iv8.cells⟩) (qt_buildArr tok rfl rfl rfl rfl rfl rfl) rfl) ?_)
  rename_i b
  exact run_ret hC (rs := [.tmp 0]) rfl (resT rfl resN) (fun _ h => h) ⟨b, rfl, rfl, rfl⟩
theorem shCopy_ok (M : Mem) (L : HL) (b : Nat) (s : S8) (m : Nat → UInt8) (n : Nat) : Tr Tryz.prog 121 [pt b] M (shB b s m n :: L) (fun v M' L' => ∃ c, v = pt c ∧ M = M' ∧ L' = shB c s m n :: shB b s m n :: L) := by
  refine Tr.intro 9 Tryz.func121 rfl rfl Tryz.call121 rfl ?_
  intro C hC hro
  repeat (first | refine zz ?_ | refine zx fun _ => ?_)
  refine run_cond rfl (fun h => by cases h) (fun _ => ?_)
  refine run_skip ?_
  repeat (first | refine zz ?_ | refine zx fun _ => ?_ | refine rq (qt_ld tok rfl (by (repeat (first | with_reducible apply List.mem_cons_self | with_reducible assumption | with_reducible apply List.mem_cons_of_mem | with_reducible apply List.mem_append_right))) (ldE_all rfl (by rw [sh_len]; rfl))) ?_ | refine ws ?_ rfl rfl rfl (sh_len s m n) (by exact rfl) (by (repeat (first | with_reducible apply Upd.here | with_reducible apply Upd.there | with_reducible apply Upd.append_left))) (setE_all (sh_len s m n)))
  rename_i c
  exact run_ret hC (rs := [.tmp 2]) rfl (resT rfl resN) (fun _ h => h) ⟨c, rfl, rfl, rfl⟩
theorem tmod64 (n : Nat) : ((n : Int)).tmod 64 = ((n % 64 : Nat) : Int) := by
  rw [Int.tmod_eq_emod_of_nonneg (by omega)]; omega
theorem sh_stn {s : S8} {m : Nat → UInt8} {n : Nat} {z : Int} (n' : Nat) (hz : z = (n' : Int)) : setE (shC s m n) (0 + 72) (cellsL (.int .i64 z)) = some (shC s m n') := by
  subst hz
  rw [setE_of (by rw [sh_len]; show 0 + 72 + 1 ≤ 73; omega)]
  show some (setSeg (shC s m n) 72 [iv n']) = _
  rw [setSeg_one (by rw [sh_len]; omega)]
  unfold shC
  rw [List.set_append_right _ _ (by simp [S8.cells]), List.set_append_right _ _ (by rw [fc_len]; simp [S8.cells])]
  simp [S8.cells, fc_len]
set_option maxHeartbeats 8000000 in
theorem shWrite_ok (M : Mem) (L : HL) (b : Nat) (s : S8) (m : Nat → UInt8) (n : Nat) (T : List UInt8) (t : ByteArray) (hk : KM M) (hok : ShOk T s m n) (hn : n = T.length) (hsz : n + t.size < 4611686018427387904) :
    Tr Tryz.prog 93 [pt b, .string t] M (shB b s m n :: L) (fun _ M' L' => M = M' ∧ ∃ s' m', L' = shB b s' m' (n + t.size) :: L ∧ ShOk (T ++ t.data.toList) s' m' (n + t.size)) := by
  have hlen : t.data.toList.length = t.size := ba_len t
  refine Tr.intro 42 Tryz.func93 rfl rfl Tryz.call93 rfl ?_
  intro C hC hro
  repeat (first | refine zz ?_ | refine zx fun _ => ?_)
  refine run_cond rfl (fun h => by cases h) (fun _ => ?_)
  refine run_skip ?_
  repeat (first | refine zz ?_ | refine zx fun _ => ?_)
  refine run_loopN (fun j σ1 M1 L1 => j ≤ t.size ∧ M = M1 ∧ ∃ (q : Nat) (u : ByteArray) (s' : S8) (m' : Nat → UInt8), j ≤ q ∧ q ≤ t.size ∧ u.data.toList = t.data.toList.drop q ∧ ShOk (T ++ t.data.toList) s' m' (n + q) ∧ L1 = shB b s' m' (n + q) :: L ∧ σ1 = [(1, .string u), (0, pt b)]) t.size [(1, .string t), (0, pt b)] ?_ ⟨Nat.zero_le _, rfl, 0, t, s, m, Nat.le_refl _, Nat.zero_le _, rfl, hok.app _, rfl, rfl⟩ (fun j _ _ _ h => h.1) ?_
  · exact ⟨rfl, rfl, trivial⟩
  rintro j _ _ _ ⟨hj, rfl, q, u, s', m', hjq, hq, hu, hok', rfl, rfl⟩ hnext
  have hus : u.size = t.size - q := by rw [← ba_len u, hu, List.length_drop, hlen]
  refine run_seq ?_
  refine run_seq ?_
  (refine run_region ?_; (repeat (first | refine zq ?_ | refine zx fun _ => ?_)); refine runL_nil ?_)
  refine run_cond (t := !(u.toList == (⟨#[]⟩ : ByteArray).toList)) rfl (fun h => ?_) (fun h => ?_)
  · rw [empty_beq] at h
    have hne : u.size ≠ 0 := by simpa using h
    generalize hc : min u.size (64 - (n + q) % 64) = c
    have hc1 : 1 ≤ c := by omega
    refine run_skip ?_
    refine run_block ?_
    refine run_seq ?_
    refine run_region ?_
    repeat (first | refine wq ?_ | refine wg ?_)
    refine rq (Qt.as (v' := iv ((n + q) % 64)) (qt_rem rfl rfl (fun _ => by decide)) (congrArg (Value.int .i64) (tmod64 _))) ?_
    repeat (first | refine zz ?_ | refine zx fun _ => ?_)
    refine rq (qt_sliceArr tok rfl rfl rfl rfl (fun _ => by omega)) ?_
    repeat (first | refine zq ?_ | refine zx fun _ => ?_)
    have hfill := sh_fill s' m' (n := n + q) (N := n + q) (c := c) (T := T ++ t.data.toList) (l := u.data.toList.take (min u.size (64 - (n + q) % 64))) (by omega) (by rw [List.length_take, ba_len, hc]; omega) (fun i hi => by
      rw [hc, List.getElem?_take, if_pos hi, hu, List.getElem?_drop]
      have e1 : 64 * ((n + q) / 64) + ((n + q) % 64 + i) = T.length + (q + i) := by omega
      rw [e1, List.getD_eq_getElem?_getD, List.getElem?_append_right (by omega), show T.length + (q + i) - T.length = q + i by omega]
      have hlt : q + i < t.data.toList.length := by omega
      rw [List.getElem?_eq_getElem hlt]; rfl)
    refine ro (st_copyStr (cs := shC s' m' (n + q)) tok rfl rfl rfl rfl (by rw [sh_len]; omega) (by (repeat (first | with_reducible apply Upd.here | with_reducible apply Upd.there | with_reducible apply Upd.append_left)))) ?_
    rintro _ _ _ ⟨rfl, rfl, rfl⟩
    rw [hfill, hc]
    repeat (first | refine zz ?_ | refine zx fun _ => ?_)
    refine prn_start mixed ?_
    repeat (first | refine dq ?_ | refine dg ?_)
    refine pq rfl (qt_strLo (n := c) tok rfl rfl rfl (fun _ => by omega)) ?_
    repeat (first | refine dq ?_ | refine dg ?_)
    have hw : IntKind.i64.wrap (((n + q : Nat) : Int) + (c : Int)) = ((n + q + c : Nat) : Int) := by
      have : ((n + q : Nat) : Int) + (c : Int) = ((n + q + c : Nat) : Int) := by omega
      rw [this]; exact wrap64_nat (by omega)
    refine po rfl (qt_pev tok rfl) ?_
    rintro _ _ _ ⟨rfl, rfl, rfl⟩
    refine ⟨by (repeat (first | exact trivial | refine And.intro (pend_q rfl rfl rfl (qt_pev tok rfl)) ?_ | refine And.intro (pend_q rfl rfl rfl (ql tok rfl)) ?_)), ?_⟩
    repeat (first | refine dq ?_ | refine dg ?_)
    refine prn_o0 rfl (sst tok rfl rfl rfl rfl rfl (by (repeat (first | with_reducible apply Upd.here | with_reducible apply Upd.there | with_reducible apply Upd.append_left))) (sh_stn (n + q + c) hw)) (by decide +kernel) ?_
    rintro _ _ _ ⟨rfl, rfl, rfl⟩
    refine ⟨by (repeat (first | exact trivial | refine And.intro (pend_q rfl rfl rfl (qt_pev tok rfl)) ?_ | refine And.intro (pend_q rfl rfl rfl (ql tok rfl)) ?_ | refine And.intro (pend_q rfl rfl rfl (qt_strLo (n := c) tok rfl rfl rfl (fun _ => by omega))) ?_)), ?_⟩
    refine prn_end (by decide +kernel) ?_
    refine run_seq ?_
    refine run_region ?_
    repeat (first | refine wq ?_ | refine wg ?_)
    refine rq (Qt.as (v' := iv ((n + q + c) % 64)) (qt_rem rfl rfl (fun _ => by decide)) (congrArg (Value.int .i64) (tmod64 _))) ?_
    repeat (first | refine zz ?_ | refine zx fun _ => ?_)
    have hue : (u.extract c u.size).data.toList = t.data.toList.drop (q + c) := by
      rw [ba_extract, List.take_of_length_le (by rw [ba_len]; omega), hu, List.drop_drop]
    have hle := hok'.le
    rw [List.length_append, hlen] at hle
    have hTl : (T ++ t.data.toList).length = n + t.size := by rw [List.length_append, hlen, hn]
    refine run_cond rfl (fun h2 => ?_) (fun h2 => ?_)
    · have h0 : (n + q + c) % 64 = 0 := by simp at h2; omega
      repeat (first | refine zz ?_ | refine zx fun _ => ?_ | refine ro (st_callF rfl (fun _ => take_ok _ _ b _ _ _ hk)) ?_; rintro _ _ _ ⟨rfl, rfl⟩)
      refine run_sub' (hnext _ _ _ ⟨by omega, rfl, q + c, u.extract c u.size, _, _, by omega, by omega, hue, ?_, by rw [← Nat.add_assoc], rfl⟩) ⟨rfl, rfl, trivial⟩
      rw [← Nat.add_assoc]
      exact hok'.full (by rw [hTl]; omega) (by omega)
    · have h0 : (n + q + c) % 64 ≠ 0 := by simp at h2; omega
      repeat (first | refine zz ?_ | refine zx fun _ => ?_)
      refine run_sub' (hnext _ _ _ ⟨by omega, rfl, q + c, u.extract c u.size, _, _, by omega, by omega, hue, ?_, by rw [← Nat.add_assoc], rfl⟩) ⟨rfl, rfl, trivial⟩
      rw [← Nat.add_assoc]
      exact hok'.part (by rw [hTl]; omega) (by omega)
  · rw [empty_beq] at h
    have hne : u.size = 0 := by simpa using h
    have hqt : q = t.size := by omega
    subst hqt
    repeat (first | refine zz ?_ | refine zx fun _ => ?_)
    exact run_end hC rfl (vs := []) trivial (fun _ h => h) ⟨rfl, s', m', rfl, hok'⟩
end Go.Proofs.YtkjljcgbnikmkaaGreatDoor
namespace Go.Proofs.YtkjljcgbnikmkaaGreatDoor
open Go.Chi
set_option maxRecDepth 10000
theorem hex80 : (⟨#[128]⟩ : ByteArray).data.toList = [128] := rfl
theorem hex00 : (⟨#[0]⟩ : ByteArray).data.toList = [0] := rfl
theorem rep_snoc {α : Type} (x : α) (j : Nat) : List.replicate (j + 1) x = List.replicate j x ++ [x] := List.replicate_succ'
set_option maxHeartbeats 16000000 in
theorem shSum_ok (M : Mem) (L : HL) (b : Nat) (s : S8) (m : Nat → UInt8) (n : Nat) (T : List UInt8) (hk : KM M) (hok : ShOk T s m n) (hn : n = T.length) (hsz : n < 1000000000000) :
    Tr Tryz.prog 94 [pt b] M (shB b s m n :: L) (fun v M' L' => v = .string (sumB T) ∧ M = M' ∧ L' = shB b s m n :: L) := by
  refine Tr.intro 66 Tryz.func94 rfl rfl Tryz.call94 rfl ?_
  intro C hC hro
  repeat (first | refine zz ?_ | refine zx fun _ => ?_)
  refine run_cond rfl (fun h => by cases h) (fun _ => ?_)
  refine run_skip ?_
  repeat (first | refine zz ?_ | refine zx fun _ => ?_ | refine ro (st_callF rfl (fun _ => shCopy_ok _ _ b s m n)) ?_; rintro _ _ _ ⟨c, rfl, rfl, rfl⟩)
  rename_i c
  refine ro (st_callF rfl (fun _ => shWrite_ok _ _ c s m n T ⟨#[128]⟩ hk hok hn (by show n + 1 < _; omega))) ?_
  rintro _ _ _ ⟨rfl, s1, m1, rfl, hok1⟩
  rw [hex80] at hok1
  repeat (first | refine zz ?_ | refine zx fun _ => ?_)
  refine run_loopN (fun j σ1 M1 L1 => j ≤ padZ n ∧ M = M1 ∧ ∃ s' m', ShOk (T ++ ([128] ++ List.replicate j 0)) s' m' (n + 1 + j) ∧ L1 = shB c s' m' (n + 1 + j) :: shB b s m n :: L ∧ σ1 = [(3, pt c), (0, pt b)]) (padZ n) [(3, pt c), (0, pt b)] ?_ ⟨Nat.zero_le _, rfl, s1, m1, hok1, rfl, rfl⟩ (fun j _ _ _ h => h.1) ?_
  · exact ⟨rfl, rfl, trivial⟩
  rintro j _ _ _ ⟨hj, rfl, s2, m2, hok2, rfl, rfl⟩ hnext
  have hpz : padZ n ≤ 63 ∧ (n + 1 + padZ n) % 64 = 56 ∧ (j < padZ n → (n + 1 + j) % 64 ≠ 56) := by unfold padZ at hj ⊢; omega
  refine run_seq ?_
  refine run_seq ?_
  refine run_region ?_
  repeat (first | refine wq ?_ | refine wg ?_)
  refine rq (Qt.as (v' := iv ((n + 1 + j) % 64)) (qt_rem rfl rfl (fun _ => by decide)) (congrArg (Value.int .i64) (tmod64 _))) ?_
  repeat (first | refine wq ?_ | refine wg ?_)
  refine runL_nil ?_
  refine run_cond rfl (fun h => ?_) (fun h => ?_)
  · have hne : (n + 1 + j) % 64 ≠ 56 := by simp at h; omega
    have hlt : j < padZ n := by
      refine Nat.lt_of_le_of_ne hj (fun e => ?_)
      rw [e] at hne; exact hne hpz.2.1
    repeat (first | refine zz ?_ | refine zx fun _ => ?_ | refine ro (st_callF rfl (fun _ => shWrite_ok _ _ c s2 m2 (n + 1 + j) _ ⟨#[0]⟩ hk hok2 (by simp [hn]; omega) (by show n + 1 + j + 1 < _; omega))) ?_; rintro _ _ _ ⟨rfl, s3, m3, rfl, hok3⟩)
    refine run_sub' (hnext _ _ _ ⟨hlt, rfl, _, _, ?_, rfl, rfl⟩) ⟨rfl, rfl, trivial⟩
    rw [hex00] at hok3
    rw [rep_snoc, ← List.append_assoc, ← List.append_assoc]
    rw [← List.append_assoc] at hok3
    exact hok3
  have hje : j = padZ n := by
    have : (n + 1 + j) % 64 = 56 := by simp at h; omega
    by_cases hlt : j < padZ n
    · exact absurd this (hpz.2.2 hlt)
    · omega
  subst hje
  clear hnext
  repeat (first | refine zz ?_ | refine zx fun _ => ?_)
  refine rq (qt_shl rfl rfl (fun _ => by decide)) ?_
  have hlong : ishl .u64 (IntKind.u64.wrap (n : Int)) 3 = ((8 * n : Nat) : Int) := by
    have e : IntKind.u64.wrap (n : Int) = (n : Int) := by rw [u64_wrap]; omega
    rw [e]
    show IntKind.u64.wrap ((n : Int) * 2 ^ 3) = _
    rw [u64_wrap]; omega
  refine runL_as 28 (.int .u64 ((8 * n : Nat) : Int)) rfl (congrArg (Value.int .u64) hlong) ?_
  repeat (first | refine zz ?_ | refine zx fun _ => ?_)
  refine run_loopN (fun j σ1 M1 L1 => j ≤ 8 ∧ M = M1 ∧ ∃ s' m', ShOk (T ++ ([128] ++ (List.replicate (padZ n) 0 ++ lenB n j))) s' m' (n + 1 + padZ n + j) ∧ L1 = shB c s' m' (n + 1 + padZ n + j) :: shB b s m n :: L ∧ σ1 = [(5, .int .i64 (56 - 8 * (j : Int))), (4, .int .u64 ((8 * n : Nat) : Int)), (3, pt c), (0, pt b)]) 8 [(5, .int .i64 56), (4, .int .u64 ((8 * n : Nat) : Int)), (3, pt c), (0, pt b)] ?_ ⟨Nat.zero_le _, rfl, s2, m2, by simpa [lenB] using hok2, rfl, rfl⟩ (fun j _ _ _ h => h.1) ?_
  · exact ⟨rfl, rfl, rfl, rfl, trivial⟩
  rintro j _ _ _ ⟨hj, rfl, s4, m4, hok4, rfl, rfl⟩ hnext
  refine run_seq ?_
  refine run_seq ?_
  (refine run_region ?_; (repeat (first | refine zq ?_ | refine zx fun _ => ?_)); refine runL_nil ?_)
  refine run_cond rfl (fun h => ?_) (fun h => ?_)
  · have hlt : j < 8 := by simp at h; omega
    refine run_skip ?_
    repeat (first | refine zz ?_ | refine zx fun _ => ?_ | refine rq (qt_shr rfl rfl (fun _ => by omega)) ?_)
    rename_i b4
    refine rq (qt_bytesStr tok [IntKind.u8.wrap (ishr .u64 ((8 * n : Nat) : Int) (56 - 8 * (j : Int)))] rfl rfl rfl rfl (cellsAll List.mem_cons_self) rfl) ?_
    refine runL_mem (fun _ h => h.drop) ?_
    refine ro (st_callF rfl (fun _ => shWrite_ok _ _ c s4 m4 (n + 1 + padZ n + j) _ _ hk hok4 (by simp [hn, lenB_length]; omega) (by show n + 1 + padZ n + j + 1 < _; omega))) ?_
    rintro _ _ _ ⟨rfl, s5, m5, rfl, hok5⟩
    repeat (first | refine zz ?_ | refine zx fun _ => ?_)
    refine run_as 5 (.int .i64 (56 - 8 * ((j + 1 : Nat) : Int))) rfl (congrArg (Value.int .i64) ?_) ?_
    · rw [IntWalk.i64_in _ (by omega)]; omega
    refine run_sub' (hnext _ _ _ ⟨hlt, rfl, _, _, ?_, rfl, rfl⟩) ⟨rfl, rfl, rfl, rfl, trivial⟩
    have e56 : (56 - 8 * (j : Int)) = ((56 - 8 * j : Nat) : Int) := by omega
    rw [bytesI_list, e56] at hok5
    rw [lenB, ← List.append_assoc, ← List.append_assoc, ← List.append_assoc]
    rw [← List.append_assoc, ← List.append_assoc] at hok5
    exact hok5
  have hj8 : j = 8 := by simp at h; omega
  subst hj8
  clear hnext hok1 hok2
  have hpad : T ++ ([128] ++ (List.replicate (padZ n) 0 ++ lenB n 8)) = padL T := by rw [hn]; rfl
  rw [hpad] at hok4
  have hplen : (padL T).length = n + 1 + padZ n + 8 := by
    rw [← hpad]; simp [lenB_length, hn]; omega
  have hst : s4 = foldB (padL T) ((padL T).length / 64) := by rw [hplen]; exact hok4.st
  repeat (first | refine zz ?_ | refine zx fun _ => ?_)
  refine ro (st_makeRoom (n := 32) tok rfl rfl rfl rfl rfl rfl rfl (by decide) (by decide)) ?_
  rintro v _ _ ⟨N, rfl, rfl, hO⟩
  repeat (first | refine zz ?_ | refine zx fun _ => ?_)
  refine run_loopN (fun j σ1 M1 L1 => j ≤ 8 ∧ M = M1 ∧ ∃ v N, OS 5 1 v (4 * j) ((outI s4 j).map (Value.int .u8)) N ∧ L1 = N ++ (shB c s4 m4 (n + 1 + padZ n + 8) :: shB b s m n :: L) ∧ σ1 = [(46, iv j), (45, .agg ⟨s4.cells⟩), (6, v)]) 8 [(46, iv 0), (45, .agg ⟨s4.cells⟩), (6, v)] ?_ ⟨Nat.zero_le _, rfl, v, N, hO, rfl, rfl⟩ (fun j _ _ _ h => h.1) ?_
  · exact ⟨rfl, rfl, rfl, trivial⟩
  rintro j _ _ _ ⟨hj, rfl, v, N, hO, rfl, rfl⟩ hnext
  repeat (first | refine zz ?_ | refine zx fun _ => ?_)
  refine run_cond rfl (fun h => ?_) (fun h => ?_)
  · have hlt : j < 8 := by simp at h; omega
    repeat (first | refine zz ?_ | refine zx fun _ => ?_)
    refine rq (qt_indexV (v := wU (s4.get j)) tok rfl rfl rfl rfl (fun _ => ⟨hlt, ldE_at rfl (by show s4.cells[j]? = _; rw [S8.cells_fc]; exact fc_get hlt)⟩)) ?_
    repeat (first | refine zz ?_ | refine zx fun _ => ?_ | refine rq (qt_shr rfl rfl (fun _ => by decide)) ?_)
    rename_i b5
    refine ro (st_append (N := N) (L0 := _ :: (shB c s4 m4 (n + 1 + padZ n + 8) :: shB b s m n :: L)) tok rfl rfl rfl rfl rfl rfl rfl rfl (pm1 _ N _) hO (.inr ⟨b5, 0, 4, rfl, cellsAll List.mem_cons_self, rfl⟩) (by intro u hu; exact oneL_ok (vs := _) (by rfl) u hu) (by omega) (by omega)) ?_
    rintro v' _ _ ⟨N', rfl, rfl, hO'⟩
    refine runL_mem (fun _ h => (h.perm (List.perm_middle)).drop) ?_
    repeat (first | refine zz ?_ | refine zx fun _ => ?_)
    refine run_sub' (hnext _ _ _ ⟨hlt, rfl, v', N', ?_, rfl, rfl⟩) ⟨lk_succ rfl (by omega), rfl, rfl, trivial⟩
    rw [outI, List.map_append]
    exact hO'
  have hj8 : j = 8 := by simp at h; omega
  subst hj8
  rcases hO with ⟨_, h0, _, _⟩ | ⟨bo, cap, cs, rfl, rfl, hcap, hcl, htk⟩
  · omega
  have hcells : ∀ Lx : HL, (bo, Obj.cells ⟨cs⟩ 5 (0, 0)) ∈ Lx → Cells M Lx bo 0 ((outI s4 8).map (Value.int .u8)) := fun Lx hm => ⟨⟨cs⟩, _, _, .inl hm, fun i u hu => by
    rw [← htk, List.getElem?_take] at hu
    split at hu
    · simpa using hu
    · cases hu⟩
  repeat (first | refine zz ?_ | refine zx fun _ => ?_ | refine rq (qt_bytesStr tok (outI s4 8) rfl rfl rfl rfl (hcells _ List.mem_cons_self) (outI_length s4 8)) ?_)
  refine run_ret hC (rs := [.tmp 2]) rfl (resT rfl resN) (fun _ h => h.drop.drop) ⟨?_, rfl, rfl⟩
  show Value.string (bytesI (outI s4 8)) = _
  rw [hst, sumB]
end Go.Proofs.YtkjljcgbnikmkaaGreatDoor
namespace Go.Proofs.YtkjljcgbnikmkaaGreatDoor
open Go.Chi
set_option maxRecDepth 10000
theorem take_snoc {α : Type} {l : List α} {j : Nat} {x : α} (h : l[j]? = some x) : l.take (j + 1) = l.take j ++ [x] := by rw [List.take_add_one, h]; rfl
theorem any_snoc {α : Type} {xs : List α} {j : Nat} {x : α} (p : α → Bool) (hx : xs[j]? = some x) (hp : (xs.take j).any p = false) : (xs.take (j + 1)).any p = p x := by rw [take_snoc hx, List.any_append, hp]; simp
theorem any_true {α : Type} {xs : List α} {j : Nat} {x : α} (p : α → Bool) (hx : xs[j]? = some x) (hp : p x = true) : xs.any p = true := List.any_eq_true.2 ⟨x, List.mem_of_getElem? hx, hp⟩
theorem SMb.at_ {M : Mem} {a : Option Addr} {len : Nat} {xs : List Mb} (h : SlM M 2 a len (xs.map mbC)) {j : Nat} (hj : j < len) : ∃ b off m, a = some ⟨b, off, none⟩ ∧ xs[j]? = some m ∧ Cells M [] b (off + j * 2) (mbC m) := by
  obtain ⟨b, off, c, ha, hc, _, hcells⟩ := h.at_ hj
  obtain ⟨m, hm, rfl⟩ : ∃ m, xs[j]? = some m ∧ mbC m = c := by simpa using hc
  exact ⟨b, off, m, ha, hm, hcells⟩
def stC (x : ByteArray) : List Value := [.string x]
theorem SStr.at_ {M : Mem} {a : Option Addr} {len : Nat} {xs : List ByteArray} (h : SlM M 1 a len (xs.map stC)) {j : Nat} (hj : j < len) : ∃ b off m, a = some ⟨b, off, none⟩ ∧ xs[j]? = some m ∧ Cells M [] b (off + j * 1) (stC m) := by
  obtain ⟨b, off, c, ha, hc, _, hcells⟩ := h.at_ hj
  obtain ⟨m, hm, rfl⟩ : ∃ m, xs[j]? = some m ∧ stC m = c := by simpa using hc
  exact ⟨b, off, m, ha, hm, hcells⟩
def MbOk (M : Mem) (s : SMb) : Prop := s.Ok M ∧ s.len < 1000000
def StOk (M : Mem) (s : SStr) : Prop := s.Ok M ∧ s.len < 1000000
theorem MbOk.le {M M' : Mem} {s : SMb} (hm : M.le M') (h : MbOk M s) : MbOk M' s := ⟨h.1.le hm, h.2⟩
theorem StOk.le {M M' : Mem} {s : SStr} (hm : M.le M') (h : StOk M s) : StOk M' s := ⟨h.1.le hm, h.2⟩
theorem MbOk.nil (M : Mem) : MbOk M ⟨none, 0, 0, []⟩ := ⟨SlM.nil _ _ _, by decide⟩
theorem StOk.nil (M : Mem) : StOk M ⟨none, 0, 0, []⟩ := ⟨SlM.nil _ _ _, by decide⟩
theorem MbOk.len {M : Mem} {s : SMb} (h : MbOk M s) : s.xs.length = s.len := by have := h.1.1; simpa using this
theorem StOk.len {M : Mem} {s : SStr} (h : StOk M s) : s.xs.length = s.len := by have := h.1.1; simpa using this
def orgW (n : Int) : Bool := decide (n ≥ 0) && decide (n < 8)
theorem worg_ok (M : Mem) (L : HL) (n : Int) : TrQ Tryz.prog 117 [.int .i64 n] M L (.bool (orgW n)) := by
  refine Tr.intro 9 Tryz.func117 rfl rfl Tryz.call117 rfl ?_
  intro C hC hro
  repeat (first | refine zz ?_ | refine zx fun _ => ?_)
  exact run_ret hC (rs := [.tmp 2]) rfl (resT rfl resN) (fun _ h => h) ⟨rfl, rfl, rfl⟩
def mayTx (t : Tx) : Bool := (((orgW t.coord && decide (t.epoch ≥ 1)) && decide (t.epoch ≤ 255)) && decide (t.seq ≥ 1)) && decide (t.seq ≤ 65535)
theorem mayTx_ok (M : Mem) (L : HL) (t : Tx) : TrQ Tryz.prog 85 [.agg ⟨txC t⟩] M L (.bool (mayTx t)) := by
  refine Tr.intro 26 Tryz.func85 rfl rfl Tryz.call85 rfl ?_
  intro C hC hro
  repeat (first | refine zz ?_ | refine zx fun _ => ?_ | refine runL_q (qt_callF rfl (fun _ => worg_ok _ _ _)) rfl rfl rfl ?_)
  exact run_ret hC (rs := [.tmp 2]) rfl (resT rfl resN) (fun _ h => h.drop) ⟨rfl, rfl, rfl⟩
def badM (t : Tx) (last : Int) (x : Mb) : Bool := (((!orgW x.org) || (x.org == t.coord)) || decide (x.org ≤ last)) || (checkR x.digest != 0)
def memGo (t : Tx) : Int → List Mb → Bool
  | _, [] => true
  | last, x :: l => if badM t last x = true then false else memGo t x.org l
def mayMb (t : Tx) (l : List Mb) : Bool := memGo t (-1) l && (decide ((l.length : Int) ≥ 1) && decide ((l.length : Int) ≤ 6))
end Go.Proofs.YtkjljcgbnikmkaaGreatDoor
namespace Go.Proofs.YtkjljcgbnikmkaaGreatDoor
open Go.Chi
set_option maxRecDepth 10000
theorem u8_mod (w : Nat) : IntKind.u8.wrap (w : Int) = ((w % 256 : Nat) : Int) := by
  simp only [IntKind.wrap, IntKind.signed, IntKind.bits]
  simp
theorem shr8 (w : Nat) : ishr .u64 (w : Int) 8 = ((w / 256 : Nat) : Int) := by
  have : ishr .u64 (w : Int) 8 = (w : Int).fdiv 256 := rfl
  rw [this]
  exact Int.ofNat_fdiv w 256 |>.symm
set_option maxRecDepth 10000 in
set_option maxHeartbeats 4000000 in
theorem onum_ok (M : Mem) (L : HL) (v : Nat) (hv : v < 18446744073709551616) : TrQ Tryz.prog 95 [.int .u64 (v : Int)] M L (.string (numB v)) := by
  have hlen := digN_len hv
  refine Tr.intro 31 Tryz.func95 rfl rfl Tryz.call95 rfl ?_
  intro C hC hro
  repeat (first | refine zz ?_ | refine zx fun _ => ?_)
  refine run_cond rfl (fun h => ?_) (fun h => ?_)
  · have h0 : v < 248 := by simp at h; omega
    repeat (first | refine zz ?_ | refine zx fun _ => ?_ | refine runL_q (qt_bytesStr tok [IntKind.u8.wrap (v : Int)] rfl rfl rfl rfl (cellsAll List.mem_cons_self) rfl) rfl rfl rfl ?_)
    exact run_ret hC (rs := [.tmp 2]) rfl (resT rfl resN) (fun _ h => h.drop) ⟨by rw [numB, if_pos h0]; rfl, rfl, rfl⟩
  · have h0 : ¬ v < 248 := by simp at h; omega
    repeat (first | refine zz ?_ | refine zx fun _ => ?_)
    rename_i b
    refine run_loopN (fun i σ1 M1 L1 => i ≤ 8 ∧ ∃ (w : Nat) (ns : List Int) (cs : List Value), digN v = digN w ++ bytesI ns ∧ ns.length = i ∧ w < 18446744073709551616 ∧ cs.length = 9 ∧ cs.drop (9 - i) = ns.map (Value.int .u8) ∧ σ1 = [(4, .int .i64 ((9 - i : Nat) : Int)), (3, .pointer (some ⟨b, 0, none⟩)), (2, .string ⟨#[]⟩), (0, .int .u64 (w : Int))] ∧ M = M1 ∧ L1 = (b, Obj.cells ⟨cs⟩ 159 (0, 0)) :: L) 8 [(4, .int .i64 ((9 - 0 : Nat) : Int)), (3, .pointer (some ⟨b, 0, none⟩)), (2, .string ⟨#[]⟩), (0, .int .u64 (v : Int))] ?_ ⟨Nat.zero_le _, v, [], _, (app_nil _).symm, rfl, hv, rfl, rfl, rfl, rfl, rfl⟩ (fun j _ _ _ h => h.1) ?_
    · exact ⟨rfl, rfl, rfl, rfl, trivial⟩
    rintro i _ _ _ ⟨hi, w, ns, cs, hd, hns, hw, hcs, hdr, rfl, rfl, rfl⟩ hnext
    have hsz := congrArg ByteArray.size hd
    rw [app_size] at hsz
    have hbn : (bytesI ns).size = i := by
      rw [← ba_len, bytesI_list, List.length_map, hns]
    repeat (first | refine zz ?_ | refine zx fun _ => ?_)
    refine run_cond rfl (fun h5 => ?_) (fun h5 => ?_)
    · have hw0 : w ≠ 0 := by simp at h5; omega
      have hdw : digN w = digN (w / 256) ++ bytesI [((w % 256 : Nat) : Int)] := by rw [digN, if_neg hw0]
      have hsw := congrArg ByteArray.size hdw
      rw [app_size, bytesI_one] at hsw
      have hi8 : i < 8 := by omega
      have e1 : IntKind.i64.wrap (((9 - i : Nat) : Int) - 1) = ((9 - (i + 1) : Nat) : Int) := by
        rw [show ((9 - i : Nat) : Int) - 1 = ((9 - (i + 1) : Nat) : Int) by omega, wrap64_nat (by omega)]
      repeat (first | refine zz ?_ | refine zx fun _ => ?_)
      refine runL_as 4 (.int .i64 ((9 - (i + 1) : Nat) : Int)) rfl (by rw [e1]) ?_
      refine runL_as 17 (.int .i64 ((9 - (i + 1) : Nat) : Int)) rfl (by rw [e1]) ?_
      refine runL_as 19 (.int .u8 ((w % 256 : Nat) : Int)) rfl (by rw [u8_mod]) ?_
      repeat (first | refine zz ?_ | refine zx fun _ => ?_ | refine runL_q (qt_indexA (n := 9 - (i + 1)) tok rfl rfl rfl rfl (fun _ => by omega)) rfl rfl rfl ?_)
      refine runL_op0 (st_store tok rfl rfl rfl rfl rfl (Upd.here _ _ _ _) (setE_of (cs := cs) (off := 0 + (9 - (i + 1)) * 1) (vs := [.int .u8 ((w % 256 : Nat) : Int)]) (by rw [List.length_singleton]; omega))) ?_
      rintro _ _ _ ⟨rfl, rfl, rfl⟩
      repeat (first | refine zz ?_ | refine zx fun _ => ?_ | refine runL_q (qt_shr rfl rfl (fun _ => by decide)) rfl rfl rfl ?_)
      refine run_as 0 (.int .u64 ((w / 256 : Nat) : Int)) rfl (by rw [shr8]) ?_
      have hk : 9 - (i + 1) + 1 ≤ cs.length := by omega
      obtain ⟨h6, h7⟩ := setSeg_tail (cs := cs) (.int .u8 ((w % 256 : Nat) : Int)) hk
      refine run_sub' (hnext _ _ _ ⟨by omega, w / 256, ((w % 256 : Nat) : Int) :: ns, _, ?_, by simp [hns], by omega, ?_, ?_, rfl, rfl, rfl⟩) ⟨rfl, rfl, rfl, rfl, trivial⟩
      · rw [hd, hdw, app_assoc, ← bytesI_app]; rfl
      · simp only [Nat.mul_one, Nat.zero_add]
        exact h6.trans hcs
      · simp only [Nat.mul_one, Nat.zero_add]
        refine h7.trans ?_
        rw [show 9 - (i + 1) + 1 = 9 - i by omega, hdr]
        rfl
    · have hw0 : w = 0 := by simp at h5; omega
      subst hw0
      rw [digN_zero, nil_app] at hd
      have hik : i = (digN v).size := by rw [hd]; omega
      have e1 : IntKind.i64.wrap (((9 - i : Nat) : Int) - 1) = ((8 - i : Nat) : Int) := by
        rw [show ((9 - i : Nat) : Int) - 1 = ((8 - i : Nat) : Int) by omega, wrap64_nat (by omega)]
      have e2 : IntKind.u8.wrap (IntKind.i64.wrap (255 - ((8 - i : Nat) : Int))) = ((247 + i : Nat) : Int) := by
        rw [show 255 - ((8 - i : Nat) : Int) = ((247 + i : Nat) : Int) by omega, wrap64_nat (by omega), u8_nat (by omega)]
      repeat (first | refine zz ?_ | refine zx fun _ => ?_)
      refine runL_as 4 (.int .i64 ((8 - i : Nat) : Int)) rfl (by rw [e1]) ?_
      refine runL_as 23 (.int .i64 ((8 - i : Nat) : Int)) rfl (by rw [e1]) ?_
      refine runL_as 26 (.int .u8 ((247 + i : Nat) : Int)) rfl (by rw [e1, e2]) ?_
      repeat (first | refine zz ?_ | refine zx fun _ => ?_ | refine runL_q (qt_indexA (n := 8 - i) tok rfl rfl rfl rfl (fun _ => by omega)) rfl rfl rfl ?_)
      refine runL_op0 (st_store tok rfl rfl rfl rfl rfl (Upd.here _ _ _ _) (setE_of (cs := cs) (off := 0 + (8 - i) * 1) (vs := [.int .u8 ((247 + i : Nat) : Int)]) (by rw [List.length_singleton]; omega))) ?_
      rintro _ _ _ ⟨rfl, rfl, rfl⟩
      obtain ⟨h6, h7⟩ := setSeg_tail (cs := cs) (k := 8 - i) (.int .u8 ((247 + i : Nat) : Int)) (by omega)
      repeat (first | refine zz ?_ | refine zx fun _ => ?_ | refine runL_q (qt_sliceArr (n := 8 - i) tok rfl rfl rfl rfl (fun _ => by omega)) rfl rfl rfl ?_ | refine runL_q (qt_bytesStrO tok (((247 + i : Nat) : Int) :: ns) rfl rfl rfl rfl (Cells.tail (cs := setSeg cs (0 + (8 - i) * 1) [.int .u8 ((247 + i : Nat) : Int)]) List.mem_cons_self (by simp only [Nat.mul_one, Nat.zero_add]; rw [h7, show 8 - i + 1 = 9 - i by omega, hdr]; rfl)) (by rw [List.length_cons]; omega)) rfl rfl rfl ?_)
      refine run_ret hC (rs := [.tmp 2]) rfl (resT rfl resN) (fun _ h => h.drop) ⟨?_, rfl, rfl⟩
      rw [(numB_big h0 hv).1, ← hik, show ((247 + i : Nat) : Int) :: ns = [((247 + i : Nat) : Int)] ++ ns from rfl, bytesI_app, ← hd]
      rfl
set_option maxRecDepth 10000 in
set_option maxHeartbeats 4000000 in
theorem otext_ok (M : Mem) (L : HL) (s : ByteArray) (hs : s.size < 2305843009213693952) : TrQ Tryz.prog 64 [.string s] M L (.string (textB s)) := by
  have hz := numB_size (v := s.size) (by omega)
  have e1 : IntKind.u64.wrap (s.size : Int) = (s.size : Int) := u64_nat (by omega)
  refine Tr.intro 9 Tryz.func64 rfl rfl Tryz.call64 rfl ?_
  intro C hC hro
  repeat (first | refine zz ?_ | refine zx fun _ => ?_)
  refine runL_as 5 (.int .u64 (s.size : Int)) rfl (by rw [e1]) ?_
  repeat (first | refine zz ?_ | refine zx fun _ => ?_ | refine runL_q (qt_callF rfl (fun _ => onum_ok _ _ s.size (by omega))) rfl rfl rfl ?_ | refine runL_q (qt_concat rfl rfl (by omega)) rfl rfl rfl ?_)
  exact run_ret hC (rs := [.tmp 2]) rfl (resT rfl resN) (fun _ h => h) ⟨rfl, rfl, rfl⟩
end Go.Proofs.YtkjljcgbnikmkaaGreatDoor
namespace Go.Proofs.YtkjljcgbnikmkaaGreatDoor
open Go.Chi
set_option maxRecDepth 10000
theorem bI_of (l : ByteArray) : bytesI (l.data.toList.map fun b => (b.toNat : Int)) = l := by
  apply ba_ext
  rw [bytesI_list, List.map_map]
  conv => rhs; rw [← List.map_id l.data.toList]
  apply List.map_congr_left
  intro b _
  simp
theorem bC_map (l : ByteArray) : (l.data.toList.map fun b => (b.toNat : Int)).map (Value.int .u8) = bC l.data.toList := by
  unfold bC; rw [List.map_map]; rfl
theorem qt_bytesT {ro : Option Nat} {σ : Env} {δ : Den} {cur : Path} {M : Mem} {L : HL} {d : Option Nat} {ty : TypeId} {pos : String} {aft : Array Edge} {g : Option (Nat × Bool)} {s t e : TypeId} {x : Operand} {b o n c : Nat} (l : ByteArray) (hs' : und tt s = some (.slice e)) (he : und tt e = some (.int .u8)) (hu : und tt t = some .string) (hx : ev σ δ cur x = some (.slice (some ⟨b, o, none⟩) n c)) (hc : Cells M L b o (bC l.data.toList)) (hl : l.size = n) :
    Qt Tryz.prog ro ⟨d, .convert s t x, ty, pos, aft, g⟩ σ δ cur M L (.string l) :=
  Qt.as (qt_bytesStrO tok (l.data.toList.map fun b => (b.toNat : Int)) hs' he hu hx (by rw [bC_map]; exact hc) (by rw [List.length_map, ba_len]; exact hl)) (congrArg Value.string (bI_of l))
def lkC (l : ByteArray) : List Value := bC l.data.toList
theorem lkC_len (l : ByteArray) : (lkC l).length = l.size := by rw [lkC, bC_len, ba_len]
def nextB (l r : ByteArray) : ByteArray := sumB (l.data.toList ++ r.data.toList)
theorem nextB_size (l r : ByteArray) : (nextB l r).size = 32 := sumB_size _
def firstB : ByteArray := ⟨Array.replicate 32 0⟩
theorem chOf_ok (M : Mem) (L : HL) (s : ByteArray) (hs : s.size = 32) : TrQ Tryz.prog 62 [.string s] M L (.agg ⟨lkC s⟩) := by
  refine Tr.intro 7 Tryz.func62 rfl rfl Tryz.call62 rfl ?_
  intro C hC hro
  repeat (first | refine zz ?_ | refine zx fun _ => ?_ | refine rq (qt_sliceAll tok rfl rfl rfl) ?_)
  rename_i b
  have hz : (lkC firstB).length = 32 := rfl
  have hset : setSeg (lkC firstB) 0 (bC (s.data.toList.take (min s.size 32))) = lkC s := by
    rw [hs, List.take_of_length_le (by rw [ba_len, hs]; exact Nat.le_refl _)]
    exact setSeg_all (by rw [hz, bC_len, ba_len, hs])
  refine ro (st_copyStr (cs := lkC firstB) tok rfl rfl rfl rfl (by rw [hz, hs]; decide) (Upd.here _ _ _ _)) ?_
  rintro _ _ _ ⟨rfl, rfl, rfl⟩
  rw [hset]
  have hl : ldE tt 107 (lkC s) 0 = some (.agg ⟨lkC s⟩) := ldE_all rfl (by rw [lkC_len, hs]; rfl)
  repeat (first | refine zz ?_ | refine zx fun _ => ?_ | refine rq (qt_ld tok rfl List.mem_cons_self hl) ?_ | refine ws ?_ rfl rfl rfl (by show (lkC s).length = 32; rw [lkC_len, hs]) (bC_one _) (Upd.here _ _ _ _) (setE_all rfl))
  exact run_ret hC (rs := [.cell 2 107]) rfl (resL tok rfl List.mem_cons_self hl resN) (fun _ h => h.drop) ⟨rfl, rfl, rfl⟩
set_option maxHeartbeats 4000000 in
theorem chNext_ok (M : Mem) (L : HL) (l r : ByteArray) (hk : KM M) (hl : l.size = 32) (hr : r.size < 100000000000) : TrQ Tryz.prog 63 [.agg ⟨lkC l⟩, .string r] M L (.agg ⟨lkC (nextB l r)⟩) := by
  refine Tr.intro 17 Tryz.func63 rfl rfl Tryz.call63 rfl ?_
  intro C hC hro
  repeat (first | refine zz ?_ | refine zx fun _ => ?_ | refine ro (st_callF rfl (fun _ => shNew_ok _ _)) ?_; rintro _ _ _ ⟨b, rfl, rfl, rfl⟩ | refine rq (qt_sliceAll tok rfl rfl rfl) ?_ | refine rq (qt_bytesT l rfl rfl rfl rfl (cellsAll (List.mem_cons_of_mem _ (List.mem_cons_of_mem _ List.mem_cons_self))) hl) ?_)
  rename_i b1 b2
  have ok0 : ShOk [] iv8 (fun _ => 0) 0 := ⟨Nat.le_refl _, rfl, fun i hi => absurd hi (Nat.not_lt_zero _)⟩
  refine ro (st_callF rfl (fun _ => shWrite_ok _ _ b _ _ 0 [] l hk ok0 rfl (by omega))) ?_
  rintro _ _ _ ⟨rfl, s1, m1, rfl, ok1⟩
  rw [List.nil_append] at ok1
  repeat (first | refine zz ?_ | refine zx fun _ => ?_ | refine ro (st_callF rfl (fun _ => shWrite_ok _ _ b _ _ _ _ r hk ok1 (by rw [ba_len]; omega) (by omega))) ?_; rintro _ _ _ ⟨rfl, s2, m2, rfl, ok2⟩)
  refine ro (st_callF rfl (fun _ => shSum_ok _ _ b _ _ _ _ hk ok2 (by rw [List.length_append, ba_len, ba_len]; omega) (by omega))) ?_
  rintro _ _ _ ⟨rfl, rfl, rfl⟩
  have hn : (nextB l r).size = 32 := nextB_size l r
  have hld : ldE tt 107 (lkC (nextB l r)) 0 = some (.agg ⟨lkC (nextB l r)⟩) := ldE_all rfl (by rw [lkC_len, hn]; rfl)
  repeat (first | refine wq ?_ | refine wg ?_ | refine rq (qt_callF rfl (fun _ => chOf_ok _ _ (nextB l r) hn)) ?_)
  refine ws ?_ rfl rfl rfl (by show (lkC (nextB l r)).length = 32; rw [lkC_len, hn]) (bC_one _) (by (repeat (first | with_reducible apply Upd.here | with_reducible apply Upd.there | with_reducible apply Upd.append_left))) (setE_all (by show (lkC (nextB l r)).length = 32; rw [lkC_len, hn]))
  refine runL_nil ?_
  exact run_ret hC (rs := [.cell 4 107]) rfl (resL tok rfl (List.mem_cons_of_mem _ List.mem_cons_self) hld resN) (fun _ h => h.drop.drop.drop) ⟨rfl, rfl, rfl⟩
theorem chFirst_ok (M : Mem) (L : HL) : TrQ Tryz.prog 67 [] M L (.string firstB) := by
  refine Tr.intro 4 Tryz.func67 rfl rfl Tryz.call67 rfl ?_
  intro C hC hro
  repeat (first | refine zz ?_ | refine zx fun _ => ?_ | refine rq (qt_sliceAll tok rfl rfl rfl) ?_ | refine rq (qt_bytesT firstB rfl rfl rfl rfl (cellsAll List.mem_cons_self) rfl) ?_)
  exact run_ret hC (rs := [.tmp 0]) rfl (resT rfl resN) (fun _ h => h.drop) ⟨rfl, rfl, rfl⟩
end Go.Proofs.YtkjljcgbnikmkaaGreatDoor
namespace Go.Proofs.YtkjljcgbnikmkaaGreatDoor
open Go.Chi
set_option maxRecDepth 10000
def chkF (first : ByteArray) (l : List ByteArray) : Int := if first.size ≠ 32 then 2 else if l.any (fun t => decide ((t.size : Int) > 8192)) = true then 5 else 0
set_option maxHeartbeats 4000000 in
theorem chCheck_ok (M : Mem) (L : HL) (first : ByteArray) (s : SStr) (hs : StOk M s) : TrQ Tryz.prog 61 [.string first, s.v] M L (.int .i64 (chkF first s.xs)) := by
  obtain ⟨⟨hlen, hsz, hcells⟩, hlt6⟩ := hs
  have hl := StOk.len ⟨⟨hlen, hsz, hcells⟩, hlt6⟩
  obtain ⟨a, len, cap, xs⟩ := s
  simp only at hlen hsz hcells hlt6 hl
  refine Tr.intro 20 Tryz.func61 rfl rfl Tryz.call61 rfl ?_
  intro C hC hro
  repeat (first | refine zz ?_ | refine zx fun _ => ?_)
  refine run_cond rfl (fun h => ?_) (fun h => ?_)
  · have h32 : first.size ≠ 32 := by simp at h; omega
    repeat (first | refine zz ?_ | refine zx fun _ => ?_)
    exact run_ret hC (rs := [.tmp 4]) rfl (resT rfl resN) (fun _ h => h) ⟨by rw [chkF, if_pos h32]; rfl, rfl, rfl⟩
  have h32 : ¬ first.size ≠ 32 := by simp at h; omega
  repeat (first | refine zz ?_ | refine zx fun _ => ?_)
  refine run_loopN (fun j σ1 M1 L1 => j ≤ len ∧ M = M1 ∧ L = L1 ∧ (xs.take j).any (fun t => decide ((t.size : Int) > 8192)) = false ∧ σ1 = [(12, iv j), (11, iv len), (10, .slice a len cap)]) len [(12, iv 0), (11, iv len), (10, .slice a len cap)] ?_ ⟨Nat.zero_le _, rfl, rfl, rfl, rfl⟩ (fun j _ _ _ h => h.1) ?_
  · exact ⟨rfl, rfl, rfl, trivial⟩
  rintro j _ _ _ ⟨hj, rfl, rfl, hany, rfl⟩ hnext
  repeat (first | refine zz ?_ | refine zx fun _ => ?_)
  refine run_cond rfl (fun h => ?_) (fun h => ?_)
  · have hlt : j < len := by simp at h; omega
    obtain ⟨b, off, x, rfl, hx, hc⟩ := SStr.at_ ⟨hlen, hsz, hcells⟩ hlt
    repeat (first | refine zz ?_ | refine zx fun _ => ?_ | refine runL_q (qt_indexN tok rfl rfl rfl rfl (fun _ => by omega)) rfl rfl rfl ?_ | refine runL_g rfl rfl (qt_indexN tok rfl rfl rfl rfl (fun _ => by omega)) rfl rfl rfl rfl rfl ?_ | refine runL_q (qt_ldM tok rfl hc rfl) rfl rfl rfl ?_ | refine runL_g rfl rfl (qt_ldM tok rfl hc rfl) rfl rfl rfl rfl rfl ?_ | refine runL_q (qt_ldM0 tok rfl hc rfl) rfl rfl rfl ?_ | refine runL_g rfl rfl (qt_ldM0 tok rfl hc rfl) rfl rfl rfl rfl rfl ?_)
    refine run_cond rfl (fun h1 => ?_) (fun h1 => ?_)
    · repeat (first | refine zz ?_ | refine zx fun _ => ?_)
      have h5 : xs.any (fun t => decide ((t.size : Int) > 8192)) = true := any_true _ hx h1
      exact run_ret hC (rs := [.tmp 4]) rfl (resT rfl resN) (fun _ h => h) ⟨by rw [chkF, if_neg h32, if_pos h5]; rfl, rfl, rfl⟩
    · repeat (first | refine zz ?_ | refine zx fun _ => ?_)
      exact run_sub' (hnext _ _ _ ⟨hlt, rfl, rfl, by rw [any_snoc _ hx hany]; exact h1, rfl⟩) ⟨lk_succ rfl (by omega), rfl, rfl, trivial⟩
  have hje : j = len := by simp at h; omega
  subst hje
  rw [List.take_of_length_le (by omega)] at hany
  repeat (first | refine zz ?_ | refine zx fun _ => ?_)
  exact run_ret hC (rs := [.tmp 4]) rfl (resT rfl resN) (fun _ h => h) ⟨by rw [chkF, if_neg h32, if_neg (by rw [hany]; simp)]; rfl, rfl, rfl⟩
def frB (l t : ByteArray) : ByteArray := textB t ++ nextB l t
theorem frB_size (l t : ByteArray) : (frB l t).size = (textB t).size + 32 := by rw [frB, app_size, nextB_size]
set_option maxHeartbeats 4000000 in
theorem chFrame_ok (M : Mem) (L : HL) (l t : ByteArray) (hk : KM M) (hl : l.size = 32) (ht : t.size ≤ 8192) : TrQ Tryz.prog 35 [.string l, .string t] M L (.tuple ⟨[.string (frB l t), .string (nextB l t), .int .i64 0]⟩) := by
  have hn := nextB_size l t
  generalize hnx : nextB l t = nx at hn
  have hfr : frB l t = textB t ++ nx := by rw [frB, hnx]
  rw [hfr]
  have hts : (textB t).size + nx.size < 4611686018427387904 := by
    have := numB_size (v := t.size) (by omega)
    rw [textB, app_size, hn]; omega
  have hc0 : chkF l [t] = 0 := by
    rw [chkF, if_neg (by simp [hl]), if_neg]
    simp; omega
  refine Tr.intro 27 Tryz.func35 rfl rfl Tryz.call35 rfl ?_
  intro C hC hro
  repeat (first | refine zz ?_ | refine zx fun _ => ?_)
  rename_i b1
  refine rq (Qt.as (v' := .int .i64 0) (qt_callF rfl (fun _ => TrQ.lend (fun w => Tryz.call61 _ w) fun M' _ hb => chCheck_ok M' [] l ⟨some ⟨b1, 0, none⟩, 1, 1, [t]⟩ ⟨SlM.ofBlk (hb _ _ List.mem_cons_self) rfl (fun c hc => by simp at hc; subst hc; rfl), (by show 1 < 1000000; decide)⟩)) (by rw [hc0])) ?_
  repeat (first | refine zz ?_ | refine zx fun _ => ?_)
  refine run_cond rfl (fun h => by cases h) (fun _ => ?_)
  refine run_skip ?_
  repeat (first | refine zz ?_ | refine zx fun _ => ?_ | refine rq (qt_callF rfl (fun _ => chOf_ok _ _ l hl)) ?_ | refine rq (Qt.as (v' := .agg ⟨lkC nx⟩) (qt_callF rfl (fun _ => chNext_ok _ _ l t hk hl (by omega))) (by rw [hnx])) ?_)
  refine ws ?_ rfl rfl rfl (by show (lkC nx).length = 32; rw [lkC_len, hn]) (bC_one _) (by (repeat (first | with_reducible apply Upd.here | with_reducible apply Upd.there | with_reducible apply Upd.append_left))) (setE_all (by show (lkC nx).length = 32; rw [lkC_len, hn]))
  repeat (first | refine wq ?_ | refine wg ?_)
  refine runL_nil ?_
  refine run_seq ?_
  refine run_region ?_
  refine rq (qt_sliceAll tok rfl rfl rfl) ?_
  refine rq (qt_bytesT nx rfl rfl rfl rfl (cellsAll List.mem_cons_self) hn) ?_
  repeat (first | refine zz ?_ | refine zx fun _ => ?_ | refine rq (qt_callF rfl (fun _ => otext_ok _ _ t (by omega))) ?_ | refine rq (qt_concat rfl rfl hts) ?_)
  exact run_ret hC (rs := [.tmp 4, .tmp 5, .tmp 6]) rfl (resT rfl (resT rfl (resT rfl resN))) (fun _ h => h.drop.drop) ⟨rfl, rfl, rfl⟩
end Go.Proofs.YtkjljcgbnikmkaaGreatDoor
namespace Go.Proofs.YtkjljcgbnikmkaaGreatDoor
open Go.Chi
set_option maxRecDepth 10000
theorem mapM_all {α β : Type} {f : α → Option β} {g : α → β} : ∀ {l : List α}, (∀ i ∈ l, f i = some (g i)) → l.mapM f = some (l.map g)
  | [], _ => rfl
  | a :: l, h => by
    rw [List.mapM_cons, h a List.mem_cons_self, mapM_all (fun i hi => h i (List.mem_cons_of_mem _ hi))]
    rfl
def bLit (b : UInt8) : Lit := .int .u8 (b.toNat : Int)
theorem bLit_wf (b : UInt8) : (Lit.int .u8 (b.toNat : Int)).wf = true := by
  have := b.toNat_lt
  have e1 : IntKind.min .u8 = 0 := by kernel_rfl
  have e2 : IntKind.max .u8 = 255 := by kernel_rfl
  show (decide (IntKind.min .u8 ≤ (b.toNat : Int)) && decide ((b.toNat : Int) ≤ IntKind.max .u8)) = true
  rw [e1, e2]
  simp; omega
theorem flatOne1 {α β : Type} (f : α → β) : ∀ l : List α, (l.map fun x => [f x]).flatten = l.map f
  | [] => rfl
  | a :: l => by rw [List.map_cons, List.flatten_cons, flatOne1 f l]; rfl
theorem lk_lits (l : ByteArray) (h : l.size = 32) : Tryz.prog.keyLits 2 107 (lkC l) = some (l.data.toList.map bLit) := by
  have hu : Tryz.prog.underlying 107 = some (.array 32 5) := und_ok tok rfl
  have he : Tryz.prog.underlying 5 = some (.int .u8) := und_ok tok rfl
  have hc : Tryz.prog.cellsOf 107 = 32 := by kernel_rfl
  have hce : Tryz.prog.cellsOf 5 = 1 := by kernel_rfl
  have hl : l.data.toList.length = 32 := by rw [ba_len]; exact h
  unfold Program.keyLits
  rw [hu]
  simp only
  rw [if_pos (by rw [lkC_len, h, hc]), hce]
  rw [mapM_all (g := fun i => [bLit (l.data.toList.getD i 0)]) (fun i hi => ?_)]
  · rw [Option.map_some, flatOne1]
    congr 1
    apply List.ext_getElem?
    intro i
    rw [List.getElem?_map, List.getElem?_map]
    by_cases hi : i < 32
    · have h1 : i < l.data.toList.length := by rw [hl]; exact hi
      rw [List.getElem?_range hi, List.getElem?_eq_getElem h1, Option.map_some, Option.map_some, List.getD_eq_getElem?_getD, List.getElem?_eq_getElem h1]
      rfl
    · have h1 : l.data.toList[i]? = none := List.getElem?_eq_none (by rw [hl]; omega)
      have h2 : (List.range 32)[i]? = none := List.getElem?_eq_none (by simp; omega)
      rw [h1, h2]; rfl
  · have hi := List.mem_range.1 hi
    have e1 : ((lkC l).drop (i * 1)).take 1 = [.int .u8 ((l.data.toList.getD i 0).toNat : Int)] := by
      rw [Nat.mul_one]
      unfold lkC bC
      rw [← List.map_drop, ← List.map_take]
      have hlt : i < l.data.toList.length := by rw [hl]; exact hi
      rw [List.drop_eq_getElem_cons hlt, List.take_succ_cons, List.take_zero, List.map_cons, List.map_nil, List.getD_eq_getElem?_getD, List.getElem?_eq_getElem hlt]
      rfl
    rw [e1]
    unfold Program.keyLits
    rw [he]
    simp only
    rw [if_pos (by simpa using bLit_wf _)]
    rfl
theorem lk_guard : Tryz.prog.eqGuardType Tryz.prog.depth 107 = false := by kernel_rfl
theorem qt_eqLink {ro : Option Nat} {σ : Env} {δ : Den} {cur : Path} {M : Mem} {L : HL} {d : Option Nat} {ty u : TypeId} {pos : String} {aft : Array Edge} {g : Option (Nat × Bool)} {x y : Operand} (a b : ByteArray) (ha : a.size = 32) (hb : b.size = 32) (hx : ev σ δ cur x = some (.agg ⟨lkC a⟩)) (hy : ev σ δ cur y = some (.agg ⟨lkC b⟩)) :
    Qt Tryz.prog ro ⟨d, .binOp .eql 107 x y u, ty, pos, aft, g⟩ σ δ cur M L (.bool (decide (a = b))) :=
  qt_of_run (semAt_of (by intro c e; cases e)) fun act w hs hcur hp => by
    have hform : ∀ c : ByteArray, c.size = 32 → (Value.agg ⟨lkC c⟩).formed Tryz.prog 107 = true := fun c hc => by
      have hu : Tryz.prog.underlying 107 = some (.array 32 5) := und_ok tok rfl
      have hcc : Tryz.prog.cellsOf 107 = 32 := by kernel_rfl
      unfold Value.formed
      rw [hu]
      simp only [hcc]
      have : (⟨lkC c⟩ : Array Value).size = 32 := by show (lkC c).length = 32; rw [lkC_len, hc]
      rw [this]; rfl
    obtain ⟨r, hr, hiff⟩ := run_equalIn_deep (P := Tryz.prog) 9990 10 107 (by kernel_rfl) w 2 2 (.agg ⟨lkC a⟩) (.agg ⟨lkC b⟩) _ _ (hform a ha) (hform b hb) (lk_lits a ha) (lk_lits b hb)
    have hd : r = decide (a = b) := by
      rw [Bool.eq_iff_iff, hiff, decide_eq_true_eq]
      constructor
      · intro e
        apply ba_ext
        have e' : (a.data.toList.map bLit).map (fun z : Lit => match z with | .int _ n => n | _ => 0) = (b.data.toList.map bLit).map (fun z : Lit => match z with | .int _ n => n | _ => 0) := by rw [e]
        simp only [List.map_map] at e'
        have inj : ∀ p q : List UInt8, p.map (fun b => (b.toNat : Int)) = q.map (fun b => (b.toNat : Int)) → p = q := by
          intro p
          induction p with
          | nil => intro q h; cases q with
            | nil => rfl
            | cons => simp at h
          | cons c p ih => intro q h; cases q with
            | nil => simp at h
            | cons c' q =>
              simp only [List.map_cons, List.cons.injEq] at h
              obtain ⟨h1, h2⟩ := h
              have h3 : c = c' := UInt8.toNat_inj.1 (by omega)
              rw [ih q h2, h3]
        exact inj _ _ e'
      · rintro rfl; rfl
    subst hd
    have hg : (eqGuard .eql 107 x y (.agg ⟨lkC a⟩) (.agg ⟨lkC b⟩)).run Tryz.prog w = .ok () w := by
      unfold eqGuard
      simp
    have hb2 := run_eql_struct (P := Tryz.prog) w 107 ⟨lkC a⟩ ⟨lkC b⟩
    rw [hr] at hb2
    simp only [execOp, ev_sound hs hcur hx, ev_sound hs hcur hy, Sem.run_bind, hg, Result.andThen_ok, hb2]
    rfl
end Go.Proofs.YtkjljcgbnikmkaaGreatDoor
namespace Go.Proofs.YtkjljcgbnikmkaaGreatDoor
open Go.Chi
structure Re where
  kind : Int
  epoch : Int
  txn : Tx
  yes : Bool
  auditor : Int
  mem : List Mb
  tags : List ByteArray
  body : ByteArray
def bz : ByteArray := ⟨#[]⟩
inductive RecP : Re → Prop
  | epoch (e : Int) : 1 ≤ e → e ≤ 255 → RecP ⟨1, e, ⟨0, 0, 0⟩, false, 0, [], [], bz⟩
  | vote (t : Tx) (y : Bool) (a : Int) (m : List Mb) (b : ByteArray) : mayTx t = true → orgW a = true → mayMb t m = true → checkR b = 0 → RecP ⟨2, 0, t, y, a, m, [], b⟩
  | commit (t : Tx) (a : Int) (m : List Mb) (g : List ByteArray) : mayTx t = true → orgW a = true → mayMb t m = true → g.length = m.length → (∀ x ∈ g, checkR x = 0) → RecP ⟨3, 0, t, true, a, m, g, bz⟩
  | abort (t : Tx) : mayTx t = true → RecP ⟨3, 0, t, false, 0, [], [], bz⟩
  | learn (t : Tx) (y : Bool) : mayTx t = true → RecP ⟨4, 0, t, y, 0, [], [], bz⟩
def nB (n : Int) : ByteArray := numB n.toNat
def txB (t : Tx) : ByteArray := nB t.coord ++ (nB t.epoch ++ nB t.seq)
def yB (y : Bool) : ByteArray := if y = true then nB 1 else nB 0
def mbB : List Mb → ByteArray
  | [] => bz
  | m :: l => nB m.org ++ (textB m.digest ++ mbB l)
def msB (l : List Mb) : ByteArray := nB (l.length : Int) ++ mbB l
def tsB : List ByteArray → ByteArray
  | [] => bz
  | t :: l => textB t ++ tsB l
def bodyB (r : Re) : ByteArray :=
  if r.kind = 1 then nB r.epoch else
  if r.kind = 2 then txB r.txn ++ (yB r.yes ++ (nB r.auditor ++ (msB r.mem ++ textB r.body))) else
  if r.kind = 3 then txB r.txn ++ (yB r.yes ++ (if r.yes = true then nB r.auditor ++ (msB r.mem ++ tsB r.tags) else bz)) else
  if r.kind = 4 then txB r.txn ++ yB r.yes else bz
def recB (r : Re) : ByteArray := bytesI [r.kind] ++ bodyB r
def pN (most : Nat) (s : ByteArray) : Option (Int × ByteArray) := if (numR s).2.2 = 0 ∧ (numR s).1 ≤ (most : Int) then some ((numR s).1, s.extract (numR s).2.1.toNat s.size) else none
def pT (s : ByteArray) : Option (ByteArray × ByteArray) := if (textR s 8192).2.2 = 0 then some ((textR s 8192).1, s.extract (textR s 8192).2.1.toNat s.size) else none
def pMb : Nat → ByteArray → Option (List Mb × ByteArray)
  | 0, s => some ([], s)
  | n + 1, s => (pN 7 s).bind fun x => (pT x.2).bind fun y => (pMb n y.2).bind fun z => some (⟨x.1, y.1⟩ :: z.1, z.2)
def pTs : Nat → ByteArray → Option (List ByteArray × ByteArray)
  | 0, s => some ([], s)
  | n + 1, s => (pT s).bind fun y => (pTs n y.2).bind fun z => some (y.1 :: z.1, z.2)
def pMs (s : ByteArray) : Option (List Mb × ByteArray) := (pN 6 s).bind fun x => pMb x.1.toNat x.2
def pTx (s : ByteArray) : Option (Tx × ByteArray) := (pN 7 s).bind fun x => (pN 255 x.2).bind fun y => (pN 65535 y.2).bind fun z => some (⟨x.1, y.1, z.1⟩, z.2)
def pY (s : ByteArray) : Option (Bool × ByteArray) := (pN 1 s).bind fun x => some (x.1 == 1, x.2)
def pAM (s : ByteArray) : Option ((Int × List Mb) × ByteArray) := (pN 7 s).bind fun x => (pMs x.2).bind fun y => some ((x.1, y.1), y.2)
def pRec (k : Int) (s : ByteArray) : Option (Re × ByteArray) :=
  if k = 1 then (pN 255 s).bind fun x => some (⟨1, x.1, ⟨0, 0, 0⟩, false, 0, [], [], bz⟩, x.2) else
  if k = 2 then (pTx s).bind fun x => (pY x.2).bind fun y => (pAM y.2).bind fun z => (pT z.2).bind fun u => some (⟨2, 0, x.1, y.1, z.1.1, z.1.2, [], u.1⟩, u.2) else
  if k = 3 then (pTx s).bind fun x => (pY x.2).bind fun y => if y.1 = true then (pAM y.2).bind fun z => (pTs z.1.2.length z.2).bind fun u => some (⟨3, 0, x.1, true, z.1.1, z.1.2, u.1, bz⟩, u.2) else some (⟨3, 0, x.1, false, 0, [], [], bz⟩, y.2) else
  if k = 4 then (pTx s).bind fun x => (pY x.2).bind fun y => some (⟨4, 0, x.1, y.1, 0, [], [], bz⟩, y.2) else
  some (⟨k, 0, ⟨0, 0, 0⟩, false, 0, [], [], bz⟩, s)
theorem pN_ok {most : Nat} {v : Int} (h0 : 0 ≤ v) (h : v ≤ most) (hv : v < 4611686018427387904) (x : ByteArray) : pN most (nB v ++ x) = some (v, x) := by
  have hn := num_read (v := v.toNat) (by omega) x
  unfold pN nB
  rw [hn, if_pos (show (0 : Int) = 0 ∧ ((v.toNat : Nat) : Int) ≤ (most : Int) from ⟨rfl, by omega⟩)]
  show some (((v.toNat : Nat) : Int), (numB v.toNat ++ x).extract (((numB v.toNat).size : Int)).toNat (numB v.toNat ++ x).size) = _
  rw [Int.toNat_natCast, ext_right, Int.toNat_of_nonneg h0]
theorem pN_back {most : Nat} {s x : ByteArray} {v : Int} (h : pN most s = some (v, x)) : 0 ≤ v ∧ v ≤ most ∧ s = nB v ++ x := by
  unfold pN at h
  split at h
  · rename_i h1
    obtain ⟨n, hn, hr, hs⟩ := num_back h1.1
    rw [hr] at h h1
    simp only [Int.toNat_natCast, Option.some.injEq, Prod.mk.injEq] at h h1
    obtain ⟨rfl, rfl⟩ := h
    exact ⟨by omega, h1.2, by unfold nB; rw [Int.toNat_natCast]; exact hs⟩
  · cases h
theorem pT_ok {t : ByteArray} (h : t.size ≤ 8192) (x : ByteArray) : pT (textB t ++ x) = some (t, x) := by
  have hn := text_read h (by omega) x
  unfold pT
  rw [hn, if_pos rfl]
  show some (t, (textB t ++ x).extract (((textB t).size : Int)).toNat (textB t ++ x).size) = _
  rw [Int.toNat_natCast, ext_right]
theorem pT_back {s x t : ByteArray} (h : pT s = some (t, x)) : t.size ≤ 8192 ∧ s = textB t ++ x := by
  unfold pT at h
  split at h
  · rename_i h1
    obtain ⟨n, hn, hr, hs⟩ := text_back h1
    rw [hr] at h
    simp only [Int.toNat_natCast, Option.some.injEq, Prod.mk.injEq] at h
    obtain ⟨rfl, rfl⟩ := h
    exact ⟨hn, hs⟩
  · cases h
theorem pMb_ok : ∀ (l : List Mb), (∀ m ∈ l, 0 ≤ m.org ∧ m.org ≤ 7 ∧ m.digest.size ≤ 8192) → ∀ x, pMb l.length (mbB l ++ x) = some (l, x)
  | [], _, x => by rw [mbB, List.length_nil, pMb]; exact congrArg (fun y => some ([], y)) (nil_app x)
  | m :: l, h, x => by
    obtain ⟨h1, h2, h3⟩ := h m List.mem_cons_self
    rw [mbB, List.length_cons, pMb, app_assoc, app_assoc, pN_ok h1 h2 (by omega), Option.bind_some, pT_ok h3, Option.bind_some, pMb_ok l (fun m hm => h m (List.mem_cons_of_mem _ hm)) x]
    rfl
theorem pMb_back : ∀ (n : Nat) {s x : ByteArray} {l : List Mb}, pMb n s = some (l, x) → l.length = n ∧ s = mbB l ++ x ∧ ∀ m ∈ l, 0 ≤ m.org ∧ m.org ≤ 7 ∧ m.digest.size ≤ 8192
  | 0, s, x, l, h => by
    rw [pMb] at h
    cases h
    exact ⟨rfl, (nil_app _).symm, fun m hm => by cases hm⟩
  | n + 1, s, x, l, h => by
    rw [pMb] at h
    obtain ⟨⟨a, s1⟩, h1, h⟩ := Option.bind_eq_some_iff.1 h
    obtain ⟨⟨d, s2⟩, h2, h⟩ := Option.bind_eq_some_iff.1 h
    obtain ⟨⟨l', s3⟩, h3, h⟩ := Option.bind_eq_some_iff.1 h
    cases h
    obtain ⟨a0, a1, ha⟩ := pN_back h1
    obtain ⟨d1, hd⟩ := pT_back h2
    obtain ⟨r1, r2, r3⟩ := pMb_back n h3
    refine ⟨by rw [List.length_cons, r1], ?_, fun m hm => ?_⟩
    · rw [mbB, app_assoc, app_assoc, ← r2, ← hd]; exact ha
    · rcases List.mem_cons.1 hm with rfl | hm
      · exact ⟨a0, a1, d1⟩
      · exact r3 m hm
theorem pTs_ok : ∀ (l : List ByteArray), (∀ t ∈ l, t.size ≤ 8192) → ∀ x, pTs l.length (tsB l ++ x) = some (l, x)
  | [], _, x => by rw [tsB, List.length_nil, pTs]; exact congrArg (fun y => some ([], y)) (nil_app x)
  | t :: l, h, x => by
    rw [tsB, List.length_cons, pTs, app_assoc, pT_ok (h t List.mem_cons_self), Option.bind_some, pTs_ok l (fun m hm => h m (List.mem_cons_of_mem _ hm)) x]
    rfl
theorem pTs_back : ∀ (n : Nat) {s x : ByteArray} {l : List ByteArray}, pTs n s = some (l, x) → l.length = n ∧ s = tsB l ++ x
  | 0, s, x, l, h => by
    rw [pTs] at h
    cases h
    exact ⟨rfl, (nil_app _).symm⟩
  | n + 1, s, x, l, h => by
    rw [pTs] at h
    obtain ⟨⟨d, s2⟩, h2, h⟩ := Option.bind_eq_some_iff.1 h
    obtain ⟨⟨l', s3⟩, h3, h⟩ := Option.bind_eq_some_iff.1 h
    cases h
    obtain ⟨d1, hd⟩ := pT_back h2
    obtain ⟨r1, r2⟩ := pTs_back n h3
    exact ⟨by rw [List.length_cons, r1], by rw [tsB, app_assoc, ← r2]; exact hd⟩
theorem pMs_ok {l : List Mb} (hl : l.length ≤ 6) (h : ∀ m ∈ l, 0 ≤ m.org ∧ m.org ≤ 7 ∧ m.digest.size ≤ 8192) (x : ByteArray) : pMs (msB l ++ x) = some (l, x) := by
  rw [msB, pMs, app_assoc, pN_ok (by omega) (by omega) (by omega), Option.bind_some]
  simp only [Int.toNat_natCast]
  exact pMb_ok l h x
theorem pMs_back {s x : ByteArray} {l : List Mb} (h : pMs s = some (l, x)) : s = msB l ++ x := by
  rw [pMs] at h
  obtain ⟨⟨a, s1⟩, h1, h⟩ := Option.bind_eq_some_iff.1 h
  obtain ⟨a0, a1, ha⟩ := pN_back h1
  obtain ⟨r1, r2, _⟩ := pMb_back _ h
  rw [msB, app_assoc, ← r2, r1, Int.toNat_of_nonneg a0]
  exact ha
theorem mayTx_r {t : Tx} (h : mayTx t = true) : (0 ≤ t.coord ∧ t.coord ≤ 7) ∧ (0 ≤ t.epoch ∧ t.epoch ≤ 255) ∧ (0 ≤ t.seq ∧ t.seq ≤ 65535) := by
  simp [mayTx, orgW] at h
  omega
theorem pTx_ok {t : Tx} (h : mayTx t = true) (x : ByteArray) : pTx (txB t ++ x) = some (t, x) := by
  obtain ⟨h1, h2, h3⟩ := mayTx_r h
  rw [txB, pTx, app_assoc, app_assoc, pN_ok h1.1 h1.2 (by omega), Option.bind_some, pN_ok h2.1 h2.2 (by omega), Option.bind_some, pN_ok h3.1 h3.2 (by omega)]
  rfl
theorem pTx_back {s x : ByteArray} {t : Tx} (h : pTx s = some (t, x)) : s = txB t ++ x := by
  rw [pTx] at h
  obtain ⟨⟨a, s1⟩, h1, h⟩ := Option.bind_eq_some_iff.1 h
  obtain ⟨⟨b, s2⟩, h2, h⟩ := Option.bind_eq_some_iff.1 h
  obtain ⟨⟨c, s3⟩, h3, h⟩ := Option.bind_eq_some_iff.1 h
  cases h
  rw [txB, app_assoc, app_assoc, ← (pN_back h3).2.2, ← (pN_back h2).2.2]
  exact (pN_back h1).2.2
theorem pY_ok (y : Bool) (x : ByteArray) : pY (yB y ++ x) = some (y, x) := by
  cases y
  · rw [yB, if_neg (by simp), pY, pN_ok (by omega) (by decide) (by omega)]; rfl
  · rw [yB, if_pos rfl, pY, pN_ok (by omega) (by decide) (by omega)]; rfl
theorem pY_back {s x : ByteArray} {y : Bool} (h : pY s = some (y, x)) : s = yB y ++ x := by
  rw [pY] at h
  obtain ⟨⟨a, s1⟩, h1, h⟩ := Option.bind_eq_some_iff.1 h
  cases h
  obtain ⟨a0, a1, ha⟩ := pN_back h1
  have : a = 0 ∨ a = 1 := by omega
  rcases this with rfl | rfl
  · exact ha
  · exact ha
theorem pAM_ok {a : Int} {l : List Mb} (ha : orgW a = true) (hl : l.length ≤ 6) (h : ∀ m ∈ l, 0 ≤ m.org ∧ m.org ≤ 7 ∧ m.digest.size ≤ 8192) (x : ByteArray) : pAM (nB a ++ (msB l ++ x)) = some ((a, l), x) := by
  have : 0 ≤ a ∧ a ≤ 7 := by simp [orgW] at ha; omega
  rw [pAM, pN_ok this.1 this.2 (by omega), Option.bind_some, pMs_ok hl h]
  rfl
theorem pAM_back {s x : ByteArray} {z : Int × List Mb} (h : pAM s = some (z, x)) : s = nB z.1 ++ (msB z.2 ++ x) := by
  rw [pAM] at h
  obtain ⟨⟨a, s1⟩, h1, h⟩ := Option.bind_eq_some_iff.1 h
  obtain ⟨⟨l, s2⟩, h2, h⟩ := Option.bind_eq_some_iff.1 h
  cases h
  rw [← pMs_back h2]
  exact (pN_back h1).2.2
theorem memGo_org (t : Tx) : ∀ (l : List Mb) (last : Int), memGo t last l = true → ∀ m ∈ l, 0 ≤ m.org ∧ m.org ≤ 7
  | [], _, _, m, hm => by cases hm
  | x :: l, last, h, m, hm => by
    rw [memGo] at h
    split at h
    · cases h
    rename_i hb
    rcases List.mem_cons.1 hm with rfl | hm
    · simp [badM, orgW] at hb
      omega
    · exact memGo_org t l x.org h m hm
def Short (r : Re) : Prop := (∀ m ∈ r.mem, m.digest.size ≤ 8192) ∧ (∀ t ∈ r.tags, t.size ≤ 8192) ∧ r.body.size ≤ 8192
theorem mayMb_r {t : Tx} {l : List Mb} (h : mayMb t l = true) : l.length ≤ 6 ∧ ∀ m ∈ l, 0 ≤ m.org ∧ m.org ≤ 7 := by
  simp only [mayMb, Bool.and_eq_true, decide_eq_true_eq] at h
  exact ⟨by omega, memGo_org t l _ h.1⟩
theorem pRec_ok {r : Re} (h : RecP r) (hs : Short r) (x : ByteArray) : pRec r.kind (bodyB r ++ x) = some (r, x) := by
  cases h with
  | epoch e h1 h2 =>
    show (pN 255 (nB e ++ x)).bind _ = _
    rw [pN_ok (by omega) (by omega) (by omega)]; rfl
  | vote t y a m b h1 h2 h3 h4 =>
    obtain ⟨m1, m2⟩ := mayMb_r h3
    show (pTx ((txB t ++ (yB y ++ (nB a ++ (msB m ++ textB b)))) ++ x)).bind _ = _
    rw [app_assoc, app_assoc, app_assoc, app_assoc, pTx_ok h1, Option.bind_some, pY_ok, Option.bind_some, pAM_ok h2 m1 (fun u hu => ⟨(m2 u hu).1, (m2 u hu).2, hs.1 u hu⟩), Option.bind_some, pT_ok hs.2.2]
    rfl
  | commit t a m g h1 h2 h3 h4 h5 =>
    obtain ⟨m1, m2⟩ := mayMb_r h3
    show (pTx ((txB t ++ (yB true ++ (nB a ++ (msB m ++ tsB g)))) ++ x)).bind _ = _
    rw [app_assoc, app_assoc, app_assoc, app_assoc, pTx_ok h1, Option.bind_some, pY_ok, Option.bind_some]
    simp only [if_true]
    rw [pAM_ok h2 m1 (fun u hu => ⟨(m2 u hu).1, (m2 u hu).2, hs.1 u hu⟩), Option.bind_some]
    simp only
    rw [← h4, pTs_ok g hs.2.1]
    rfl
  | abort t h1 =>
    show (pTx ((txB t ++ (yB false ++ bz)) ++ x)).bind _ = _
    rw [app_assoc, app_assoc, pTx_ok h1, Option.bind_some, pY_ok, Option.bind_some]
    exact congrArg (fun y => some (_, y)) (nil_app x)
  | learn t y h1 =>
    show (pTx ((txB t ++ yB y) ++ x)).bind _ = _
    rw [app_assoc, pTx_ok h1, Option.bind_some, pY_ok]
    rfl
theorem pRec_back {k : Int} {s x : ByteArray} {r : Re} (h : pRec k s = some (r, x)) : r.kind = k ∧ s = bodyB r ++ x := by
  unfold pRec at h
  split at h
  · rename_i hk
    obtain ⟨⟨a, s1⟩, h1, h⟩ := Option.bind_eq_some_iff.1 h
    cases h
    exact ⟨hk.symm, (pN_back h1).2.2⟩
  split at h
  · rename_i hk
    obtain ⟨⟨t, s1⟩, h1, h⟩ := Option.bind_eq_some_iff.1 h
    obtain ⟨⟨y, s2⟩, h2, h⟩ := Option.bind_eq_some_iff.1 h
    obtain ⟨⟨z, s3⟩, h3, h⟩ := Option.bind_eq_some_iff.1 h
    obtain ⟨⟨u, s4⟩, h4, h⟩ := Option.bind_eq_some_iff.1 h
    cases h
    refine ⟨hk.symm, ?_⟩
    show s = (txB t ++ (yB y ++ (nB z.1 ++ (msB z.2 ++ textB u)))) ++ _
    rw [app_assoc, app_assoc, app_assoc, app_assoc, ← (pT_back h4).2, ← pAM_back h3, ← pY_back h2]
    exact pTx_back h1
  split at h
  · rename_i hk
    obtain ⟨⟨t, s1⟩, h1, h⟩ := Option.bind_eq_some_iff.1 h
    obtain ⟨⟨y, s2⟩, h2, h⟩ := Option.bind_eq_some_iff.1 h
    simp only at h
    split at h
    · rename_i hy
      subst hy
      obtain ⟨⟨z, s3⟩, h3, h⟩ := Option.bind_eq_some_iff.1 h
      obtain ⟨⟨u, s4⟩, h4, h⟩ := Option.bind_eq_some_iff.1 h
      cases h
      refine ⟨hk.symm, ?_⟩
      show s = (txB t ++ (yB true ++ (nB z.1 ++ (msB z.2 ++ tsB u)))) ++ _
      rw [app_assoc, app_assoc, app_assoc, app_assoc, ← (pTs_back _ h4).2, ← pAM_back h3, ← pY_back h2]
      exact pTx_back h1
    · rename_i hy
      have hy : y = false := by simpa using hy
      subst hy
      cases h
      refine ⟨hk.symm, ?_⟩
      show s = (txB t ++ (yB false ++ bz)) ++ _
      rw [app_assoc, app_assoc, show ∀ y : ByteArray, bz ++ y = y from nil_app, ← pY_back h2]
      exact pTx_back h1
  split at h
  · rename_i hk
    obtain ⟨⟨t, s1⟩, h1, h⟩ := Option.bind_eq_some_iff.1 h
    obtain ⟨⟨y, s2⟩, h2, h⟩ := Option.bind_eq_some_iff.1 h
    cases h
    refine ⟨hk.symm, ?_⟩
    show s = (txB t ++ yB y) ++ _
    rw [app_assoc, ← pY_back h2]
    exact pTx_back h1
  · rename_i h1 h2 h3 h4
    cases h
    refine ⟨rfl, ?_⟩
    have : bodyB ⟨k, 0, ⟨0, 0, 0⟩, false, 0, [], [], bz⟩ = bz := by
      unfold bodyB
      rw [if_neg h1, if_neg h2, if_neg h3, if_neg h4]
    rw [this]
    exact (nil_app _).symm
end Go.Proofs.YtkjljcgbnikmkaaGreatDoor
namespace Go.Proofs.YtkjljcgbnikmkaaGreatDoor
open Go.Chi
def Dec (s : ByteArray) (r : Re) : Prop := RecP r ∧ recB r = s ∧ s.size ≤ 8192
theorem RecP.kind {r : Re} (h : RecP r) : 1 ≤ r.kind ∧ r.kind ≤ 4 := by cases h <;> simp
theorem recB_size (r : Re) : (recB r).size = 1 + (bodyB r).size := by rw [recB, app_size, bytesI_one]
theorem recB_byte {r : Re} (h : RecP r) (x : ByteArray) : byte (recB r ++ x) 0 = r.kind := by
  have := h.kind
  rw [recB, app_assoc, byte_left (by rw [bytesI_one]; omega), byte_one _ (by omega) (by omega)]
theorem recB_rest (r : Re) (x : ByteArray) : rest1 (recB r ++ x) = bodyB r ++ x := by
  rw [recB, app_assoc]
  have := ext_right (bytesI [r.kind]) (bodyB r ++ x)
  rw [bytesI_one] at this
  exact this
theorem textB_size (t : ByteArray) : t.size ≤ (textB t).size := by rw [textB, app_size]; omega
theorem mbB_size : ∀ (l : List Mb), ∀ m ∈ l, m.digest.size ≤ (mbB l).size
  | [], m, hm => by cases hm
  | x :: l, m, hm => by
    rw [mbB, app_size, app_size]
    rcases List.mem_cons.1 hm with rfl | hm
    · have := textB_size m.digest; omega
    · have := mbB_size l m hm; omega
theorem tsB_size : ∀ (l : List ByteArray), ∀ t ∈ l, t.size ≤ (tsB l).size
  | [], m, hm => by cases hm
  | x :: l, m, hm => by
    rw [tsB, app_size]
    rcases List.mem_cons.1 hm with rfl | hm
    · have := textB_size m; omega
    · have := tsB_size l m hm; omega
theorem short_of {r : Re} (h : RecP r) (hs : (recB r).size ≤ 8192) : Short r := by
  rw [recB_size] at hs
  cases h with
  | epoch e h1 h2 => exact ⟨(fun m hm => by cases hm), (fun m hm => by cases hm), Nat.zero_le _⟩
  | vote t y a m b h1 h2 h3 h4 =>
    have e : bodyB ⟨2, 0, t, y, a, m, [], b⟩ = txB t ++ (yB y ++ (nB a ++ (msB m ++ textB b))) := rfl
    rw [e, app_size, app_size, app_size, app_size, msB, app_size] at hs
    have := textB_size b
    exact ⟨fun u hu => by have := mbB_size m u hu; omega, (fun m hm => by cases hm), by show b.size ≤ 8192; omega⟩
  | commit t a m g h1 h2 h3 h4 h5 =>
    have e : bodyB ⟨3, 0, t, true, a, m, g, bz⟩ = txB t ++ (yB true ++ (nB a ++ (msB m ++ tsB g))) := rfl
    rw [e, app_size, app_size, app_size, app_size, msB, app_size] at hs
    exact ⟨fun u hu => by have := mbB_size m u hu; omega, fun u hu => by have := tsB_size g u hu; omega, Nat.zero_le _⟩
  | abort t h1 => exact ⟨(fun m hm => by cases hm), (fun m hm => by cases hm), Nat.zero_le _⟩
  | learn t y h1 => exact ⟨(fun m hm => by cases hm), (fun m hm => by cases hm), Nat.zero_le _⟩
theorem rec_read {r : Re} (h : RecP r) (hs : (recB r).size ≤ 8192) (x : ByteArray) : pRec (byte (recB r ++ x) 0) (rest1 (recB r ++ x)) = some (r, x) := by
  rw [recB_byte h, recB_rest, pRec_ok h (short_of h hs)]
theorem rec_prefix {a b : Re} (ha : RecP a) (hb : RecP b) (hsa : (recB a).size ≤ 8192) (hsb : (recB b).size ≤ 8192) {x y : ByteArray} (h : recB a ++ x = recB b ++ y) : a = b ∧ x = y := by
  have h1 := rec_read ha hsa x
  rw [h, rec_read hb hsb y] at h1
  cases h1
  exact ⟨rfl, rfl⟩
theorem Dec.uniq {s : ByteArray} {r r' : Re} (h : Dec s r) (h' : Dec s r') : r = r' := by
  have e : recB r ++ bz = recB r' ++ bz := by rw [h.2.1, h'.2.1]
  exact (rec_prefix h.1 h'.1 (by rw [h.2.1]; exact h.2.2) (by rw [h'.2.1]; exact h'.2.2) e).1
theorem size_zero {s : ByteArray} (h : s.size = 0) : s = bz := by
  apply ba_ext
  have : s.data.toList.length = 0 := by rw [ba_len]; exact h
  rw [List.length_eq_zero_iff.1 this]
  rfl
theorem dec_iff {s : ByteArray} {r : Re} : Dec s r ↔ s.size ≠ 0 ∧ s.size ≤ 8192 ∧ RecP r ∧ ∃ x, pRec (byte s 0) (rest1 s) = some (r, x) ∧ x.size = 0 := by
  constructor
  · rintro ⟨h1, rfl, h3⟩
    have := rec_read h1 h3 bz
    rw [show ∀ y : ByteArray, y ++ bz = y from app_nil] at this
    exact ⟨by rw [recB_size]; omega, h3, h1, bz, this, rfl⟩
  · rintro ⟨h1, h2, h3, x, h4, h5⟩
    obtain ⟨hk, hb⟩ := pRec_back h4
    refine ⟨h3, ?_, h2⟩
    rw [size_zero h5, show ∀ y : ByteArray, y ++ bz = y from app_nil] at hb
    rw [recB, hk, ← hb]
    have hp : 0 < s.size := by omega
    have := ext_split s (n := 1) (by omega)
    rw [ext_one hp] at this
    exact this.symm
end Go.Proofs.YtkjljcgbnikmkaaGreatDoor
namespace Go.Proofs.YtkjljcgbnikmkaaGreatDoor
open Go.Chi
def frsB (l : ByteArray) : List ByteArray → ByteArray
  | [] => bz
  | t :: ts => frB l t ++ frsB (nextB l t) ts
def headB (l : ByteArray) : List ByteArray → ByteArray
  | [] => l
  | t :: ts => headB (nextB l t) ts
theorem frsB_app : ∀ (l : ByteArray) (a b : List ByteArray), frsB l (a ++ b) = frsB l a ++ frsB (headB l a) b
  | l, [], b => (nil_app _).symm
  | l, t :: a, b => by rw [List.cons_append, frsB, frsB, headB, frsB_app, app_assoc]
theorem headB_app : ∀ (l : ByteArray) (a b : List ByteArray), headB l (a ++ b) = headB (headB l a) b
  | _, [], _ => rfl
  | l, t :: a, b => by rw [List.cons_append, headB, headB, headB_app]
theorem headB_size : ∀ (l : ByteArray) (a : List ByteArray), l.size = 32 → (headB l a).size = 32
  | l, [], h => h
  | l, t :: a, _ => headB_size _ a (nextB_size l t)
theorem frsB_one (l t : ByteArray) : frsB l [t] = frB l t := app_nil _
def NoFr (l rest : ByteArray) : Prop := ∀ t y : ByteArray, t.size ≤ 8192 → rest ≠ frB l t ++ y
def AllSh (ts : List ByteArray) : Prop := ∀ t ∈ ts, t.size ≤ 8192
structure Scn (l s : ByteArray) (ts : List ByteArray) (rest : ByteArray) : Prop where
  eq : s = frsB l ts ++ rest
  sh : AllSh ts
  no : NoFr (headB l ts) rest
theorem scn_ex : ∀ (n : Nat) (l s : ByteArray), s.size ≤ n → ∃ ts rest, Scn l s ts rest := by
  intro n
  induction n with
  | zero =>
    intro l s hs
    refine ⟨[], s, (nil_app _).symm, (fun _ h => by cases h), fun t y _ e => ?_⟩
    have := congrArg ByteArray.size e
    rw [app_size, frB_size] at this
    omega
  | succ n ih =>
    intro l s hs
    by_cases h : ∃ t y : ByteArray, t.size ≤ 8192 ∧ s = frB l t ++ y
    · obtain ⟨t, y, ht, rfl⟩ := h
      rw [app_size, frB_size] at hs
      obtain ⟨ts, rest, h1, h2, h3⟩ := ih (nextB l t) y (by omega)
      refine ⟨t :: ts, rest, by rw [frsB, app_assoc, ← h1], fun x hx => ?_, h3⟩
      rcases List.mem_cons.1 hx with rfl | hx
      · exact ht
      · exact h2 x hx
    · exact ⟨[], s, (nil_app _).symm, (fun _ h => by cases h), fun t y ht e => h ⟨t, y, ht, e⟩⟩
theorem text_uniq {t u x y : ByteArray} (ht : t.size ≤ 8192) (hu : u.size ≤ 8192) (h : textB t ++ x = textB u ++ y) : t = u ∧ x = y := by
  have h1 := text_read ht (by omega) x
  rw [h, text_read hu (by omega) y] at h1
  have e : u = t := (Prod.mk.inj h1).1
  subst e
  exact ⟨rfl, app_left_inj h⟩
theorem fr_uniq {l t u x y : ByteArray} (ht : t.size ≤ 8192) (hu : u.size ≤ 8192) (h : frB l t ++ x = frB l u ++ y) : t = u ∧ x = y := by
  unfold frB at h
  rw [app_assoc, app_assoc] at h
  obtain ⟨rfl, h2⟩ := text_uniq ht hu h
  exact ⟨rfl, app_left_inj h2⟩
theorem Scn.uniq : ∀ {ts us : List ByteArray} {l s r r' : ByteArray}, Scn l s ts r → Scn l s us r' → ts = us ∧ r = r'
  | [], [], l, s, r, r', h, k => ⟨rfl, by have e := h.eq.symm.trans k.eq; exact app_left_inj e⟩
  | [], u :: us, l, s, r, r', h, k => by
    exfalso
    have e := h.eq.symm.trans k.eq
    rw [frsB, frsB, app_assoc, show bz ++ r = r from nil_app r] at e
    exact h.no u _ (k.sh u List.mem_cons_self) e
  | t :: ts, [], l, s, r, r', h, k => by
    exfalso
    have e := k.eq.symm.trans h.eq
    rw [frsB, frsB, app_assoc, show bz ++ r' = r' from nil_app r'] at e
    exact k.no t _ (h.sh t List.mem_cons_self) e
  | t :: ts, u :: us, l, s, r, r', h, k => by
    have e := h.eq.symm.trans k.eq
    rw [frsB, frsB, app_assoc, app_assoc] at e
    obtain ⟨rfl, e2⟩ := fr_uniq (h.sh t List.mem_cons_self) (k.sh u List.mem_cons_self) e
    obtain ⟨rfl, rfl⟩ := Scn.uniq (ts := ts) (us := us) (l := nextB l t) (s := frsB (nextB l t) ts ++ r) ⟨rfl, fun x hx => h.sh x (List.mem_cons_of_mem _ hx), h.no⟩ ⟨e2, fun x hx => k.sh x (List.mem_cons_of_mem _ hx), k.no⟩
    exact ⟨rfl, rfl⟩
structure Sp where
  t : ByteArray
  nx : ByteArray
  at_ : Nat
  is_ : Bool
def spC (s : Sp) : List Value := [.string s.t] ++ (lkC s.nx ++ [.int .i64 (s.at_ : Int), .bool s.is_])
def spV (s : Sp) : List Value := [.agg ⟨spC s⟩]
theorem spC_len {s : Sp} (h : s.nx.size = 32) : (spC s).length = 35 := by
  simp [spC, lkC_len, h]
def stepF (l : ByteArray) (a : Nat) (s : ByteArray) : Sp :=
  if (textR s 8192).2.2 = 0 ∧ 32 ≤ s.size - (textR s 8192).2.1.toNat then
    ⟨(textR s 8192).1, nextB l (textR s 8192).1, a + (textR s 8192).2.1.toNat + 32, decide (s.extract (textR s 8192).2.1.toNat ((textR s 8192).2.1.toNat + 32) = nextB l (textR s 8192).1)⟩
  else ⟨bz, firstB, 0, false⟩
theorem stepF_go {l t y : ByteArray} {a : Nat} (ht : t.size ≤ 8192) (hy : 32 ≤ y.size) : stepF l a (textB t ++ y) = ⟨t, nextB l t, a + (textB t).size + 32, decide (y.extract 0 32 = nextB l t)⟩ := by
  unfold stepF
  rw [text_read ht (by omega) y]
  simp only [Int.toNat_natCast]
  rw [if_pos ⟨trivial, by rw [app_size]; omega⟩]
  have : (textB t ++ y).extract (textB t).size ((textB t).size + 32) = y.extract 0 32 := by
    apply ba_ext
    rw [ba_extract, ba_extract, ba_app, List.drop_take, ← ba_len (textB t), List.drop_left' rfl]
    simp
  simp only [this]
theorem stepF_nx (l : ByteArray) (a : Nat) (s : ByteArray) : (stepF l a s).nx.size = 32 := by
  unfold stepF
  split
  · exact nextB_size _ _
  · rfl
theorem stepF_no {l s : ByteArray} {a : Nat} (h : NoFr l s) : (stepF l a s).is_ = false := by
  unfold stepF
  split
  · rename_i hc
    obtain ⟨t, ht, hr, hs⟩ := text_back hc.1
    rw [hr]
    simp only [Int.toNat_natCast]
    rw [decide_eq_false_iff_not]
    intro e
    rw [hr] at hc
    have hc2 := hc.2
    simp only [Int.toNat_natCast] at hc2
    refine h t (s.extract ((textB t).size + 32) s.size) ht ?_
    rw [frB, ← e, app_assoc]
    apply ba_ext
    have hl := ba_len s
    have h1 := congrArg (fun x : ByteArray => x.data.toList) hs
    simp only [ba_app, ba_extract] at h1 ⊢
    rw [List.take_of_length_le (l := s.data.toList) (i := s.size) (by omega)] at h1 ⊢
    rw [List.drop_take, show (textB t).size + 32 - (textB t).size = 32 by omega, ← List.drop_drop, List.take_append_drop]
    exact h1
  · rfl
def placeB (ts : List ByteArray) (j : Nat) : Nat := (frsB firstB (ts.take j)).size
def linkB (ts : List ByteArray) (j : Nat) : ByteArray := headB firstB (ts.take j)
def stepsL (s : ByteArray) (ts : List ByteArray) : List (List Value) := fc (fun j => spV (stepF (linkB ts j) (placeB ts j) (s.extract (placeB ts j) s.size))) (ts.length + 1)
theorem at_split {s rest : ByteArray} {ts : List ByteArray} (h : Scn firstB s ts rest) {j : Nat} {t : ByteArray} (hj : ts[j]? = some t) :
    ∃ y, s.extract (placeB ts j) s.size = textB t ++ (nextB (linkB ts j) t ++ y) ∧ placeB ts (j + 1) = placeB ts j + (textB t).size + 32 ∧ linkB ts (j + 1) = nextB (linkB ts j) t := by
  obtain ⟨hlt, he⟩ := List.getElem?_eq_some_iff.1 hj
  have hsp : ts = ts.take j ++ t :: ts.drop (j + 1) := by rw [← he, List.getElem_cons_drop, List.take_append_drop]
  have hs : s = frsB firstB (ts.take j) ++ (textB t ++ (nextB (linkB ts j) t ++ (frsB (nextB (linkB ts j) t) (ts.drop (j + 1)) ++ rest))) := by
    conv => lhs; rw [h.eq, hsp]
    rw [frsB_app, frsB, frB, app_assoc, app_assoc, app_assoc]
    rfl
  refine ⟨frsB (nextB (linkB ts j) t) (ts.drop (j + 1)) ++ rest, ?_, ?_, ?_⟩
  · conv => lhs; rw [hs]
    exact ext_right _ _
  · unfold placeB
    rw [take_snoc hj, frsB_app, app_size, frsB_one, frB_size]
    omega
  · unfold linkB
    rw [take_snoc hj, headB_app]; rfl
theorem at_end {s rest : ByteArray} {ts : List ByteArray} (h : Scn firstB s ts rest) : s.extract (placeB ts ts.length) s.size = rest ∧ linkB ts ts.length = headB firstB ts := by
  unfold placeB linkB
  rw [List.take_of_length_le (Nat.le_refl _)]
  refine ⟨?_, rfl⟩
  conv => lhs; rw [h.eq]
  exact ext_right _ _
theorem place_le {s rest : ByteArray} {ts : List ByteArray} (h : Scn firstB s ts rest) (j : Nat) : placeB ts j ≤ s.size := by
  have : s = frsB firstB (ts.take j) ++ (frsB (linkB ts j) (ts.drop j) ++ rest) := by
    conv => lhs; rw [h.eq, ← List.take_append_drop j ts]
    rw [frsB_app, app_assoc]; rfl
  rw [this, app_size]
  unfold placeB
  omega
end Go.Proofs.YtkjljcgbnikmkaaGreatDoor
namespace Go.Proofs.YtkjljcgbnikmkaaGreatDoor
open Go.Chi
set_option maxRecDepth 10000
theorem fillL_cons {T : TT} {fs : List Field} {zs zs' : List Value} {i o j : Nat} {v : Value} {r : List (Nat × Value)} {nm : String} {ft : TypeId} {e1 e2 e3 : _} {tg : _} (hf : fs[i]? = some ⟨nm, ft, o, e1, e2, e3, tg⟩) (hs : sizeT T ft = some j) (hl : (cellsL v).length = j) (hz : setE zs o (cellsL v) = some zs') : fillL T fs zs ((i, v) :: r) = fillL T fs zs' r := by
  have hb : Nat.beq (cellsL v).length j = true := by rw [hl]; exact Nat.beq_refl j
  simp only [fillL, hf, hs, hb, hz]
def spz : List Value := .string bz :: ((lkC firstB) ++ [.int .i64 0, .bool false])
theorem sp_set (t nx : ByteArray) (h : nx.size = 32) : setE (.string t :: ((lkC firstB) ++ [.int .i64 0, .bool false])) 1 (lkC nx) = some (.string t :: (lkC nx ++ [.int .i64 0, .bool false])) := by
  have h1 : (lkC nx).length = 32 := by rw [lkC_len, h]
  have h2 : (lkC firstB).length = 32 := rfl
  rw [setE_of (by rw [List.length_cons, List.length_append, h1, h2]; decide)]
  unfold setSeg
  rw [h1]
  rfl
theorem sp_set2 (t nx : ByteArray) (n : Nat) (b : Bool) (h : nx.size = 32) : setE (.string t :: (lkC nx ++ [.int .i64 0, .bool false])) 33 [iv n] = some (.string t :: (lkC nx ++ [iv n, .bool false])) ∧ setE (.string t :: (lkC nx ++ [iv n, .bool false])) 34 [.bool b] = some (.string t :: (lkC nx ++ [iv n, .bool b])) := by
  have h1 : (lkC nx).length = 32 := by rw [lkC_len, h]
  generalize lkC nx = l at h1
  constructor
  · rw [setE_of (by simp; omega), setSeg_one (by simp; omega), List.set_cons_succ, List.set_append_right _ _ (by omega), h1]
    rfl
  · rw [setE_of (by simp; omega), setSeg_one (by simp; omega), List.set_cons_succ, List.set_append_right _ _ (by omega), h1]
    rfl
theorem sp_build (t nx : ByteArray) (n : Nat) (b : Bool) (h : nx.size = 32) {σ : Env} {δ : Den} {cur : Path} {parts : Array (Nat × Operand)} (hp : evParts σ δ cur parts.toList = some [(0, .string t), (1, .agg ⟨lkC nx⟩), (2, iv n), (3, .bool b)]) :
    pev tt σ δ cur (.build 115 parts) = some (.agg ⟨spC ⟨t, nx, n, b⟩⟩) := by
  have h1 : (lkC nx).length = 32 := by rw [lkC_len, h]
  obtain ⟨s2, s3⟩ := sp_set2 t nx n b h
  have key : ∀ fs : Array Field, und tt 115 = some (.struct fs) → fillL tt fs.toList spz [(0, .string t), (1, .agg ⟨lkC nx⟩), (2, iv n), (3, .bool b)] = some (spC ⟨t, nx, n, b⟩) ∧ fieldsKnown tt fs.toList = true := by
    intro fs hfs
    have hu : und tt 115 = some (.struct fs) := hfs
    cases hu
    constructor
    · rw [fillL_cons (v := .string t) (zs' := .string t :: ((lkC firstB) ++ [.int .i64 0, .bool false])) rfl rfl rfl rfl]
      rw [fillL_cons (v := .agg ⟨lkC nx⟩) rfl rfl h1 (sp_set t nx h)]
      rw [fillL_cons (v := iv n) rfl rfl rfl s2]
      rw [fillL_cons (v := .bool b) rfl rfl rfl s3]
      rfl
    · rfl
  obtain ⟨fs, hfs⟩ : ∃ fs, und tt 115 = some (.struct fs) := ⟨_, rfl⟩
  obtain ⟨k1, k2⟩ := key fs hfs
  have hz : zeroT tt 115 = some (.agg ⟨spz⟩) := by rfl
  simp only [pev, hfs, hz, hp, k1, k2]
theorem steps_ok (M : Mem) (L : HL) (s : ByteArray) : Tr Tryz.prog 68 [.string s] M L (fun v M' L' => M.le M' ∧ L' = L ∧ ∃ bs, v = .func (.func 96) #[] ⟨[pt bs]⟩ ∧ Cells M' [] bs 0 [.string s]) := by
  refine Tr.intro 4 Tryz.func68 rfl rfl Tryz.call68 rfl ?_
  intro C hC hro
  repeat (first | refine zz ?_ | refine zx fun _ => ?_)
  rename_i b
  refine run_frz 0 rfl ?_
  intro M1 hM1 hb
  exact run_ret hC (rs := [.tmp 2]) rfl (resT rfl resN) (fun _ h => h) ⟨hM1, rfl, b, rfl, Cells.ofBlk hb⟩
set_option maxHeartbeats 8000000 in
theorem steps1_ok (M : Mem) (bs : Nat) (s rest : ByteArray) (ts : List ByteArray) (hk : KM M) (hb : Cells M [] bs 0 [.string s]) (h : Scn firstB s ts rest) (hs : s.size < 10000000) :
    IterOk Tryz.prog 96 [pt bs] M (stepsL s ts) := by
  intro lp I X M0 L0 hle hyield hI
  have hk0 := hk.le hle
  have hb0 := hb.le hle
  have hlen : (stepsL s ts).length = ts.length + 1 := fc_len _ _
  refine Tr.intro 57 Tryz.func96 rfl rfl Tryz.call96 rfl ?_
  intro C hC hro
  repeat (first | refine zz ?_ | refine zx fun _ => ?_)
  rename_i bl
  refine run_mem (L' := (bl, .cells ⟨lkC firstB⟩ 107 (0, 0)) :: L0) (fun _ h => h) ?_
  refine run_loopN (fun j σ1 M1 L1 => j ≤ ts.length ∧ M0.le M1 ∧ ∃ L2, I j M1 L2 ∧ L1 = (bl, .cells ⟨lkC (linkB ts j)⟩ 107 (0, 0)) :: L2 ∧ σ1 = [(4, iv (placeB ts j)), (3, pt bl), (1, pt bs), (0, yv lp)]) ts.length [(4, iv 0), (3, pt bl), (1, pt bs), (0, yv lp)] ?_ ⟨Nat.zero_le _, Mem.le_refl _, L0, hI, rfl, rfl⟩ (fun j _ _ _ h => h.1) ?_
  · exact ⟨rfl, rfl, rfl, rfl, trivial⟩
  rintro j _ M1 _ ⟨hj, hM1, L2, hI2, rfl, rfl⟩ hnext
  have hb1 := hb0.le hM1
  have hk1 := hk0.le hM1
  have hpl := place_le h j
  have hlk : (linkB ts j).size = 32 := headB_size _ _ rfl
  generalize hsj : s.extract (placeB ts j) s.size = sj
  have hsz : sj.size = s.size - placeB ts j := by rw [← hsj, ← ba_len, ba_extract, List.length_drop, List.length_take, ba_len]; omega
  have hget : (stepsL s ts)[j]? = some (spV (stepF (linkB ts j) (placeB ts j) sj)) := by
    rw [stepsL, fc_get (by omega), hsj]
  by_cases hgo : (textR sj 8192).2.2 = 0 ∧ 32 ≤ sj.size - (textR sj 8192).2.1.toNat
  · obtain ⟨t, ht, hr, hst⟩ := text_back hgo.1
    generalize hy : sj.extract (textB t).size sj.size = y at hst
    generalize hk' : (textB t).size = k at *
    have hy32 : 32 ≤ y.size := by
      have h2 := hgo.2
      rw [hr] at h2
      simp only [Int.toNat_natCast] at h2
      rw [hst, app_size, hk'] at h2
      omega
    have hsy : sj.size = k + y.size := by rw [hst, app_size, hk']
    have hnx32 := nextB_size (linkB ts j) t
    rw [hst, stepF_go ht hy32, hk'] at hget
    generalize hnx : nextB (linkB ts j) t = nx at hget hnx32
    have e1 : IntKind.i64.wrap (((placeB ts j : Nat) : Int) + (k : Int)) = ((placeB ts j + k : Nat) : Int) := wrap64_nat (n := placeB ts j + k) (by omega)
    have e2 : IntKind.i64.wrap ((s.size : Int) - ((placeB ts j + k : Nat) : Int)) = ((s.size - (placeB ts j + k) : Nat) : Int) := by
      rw [show (s.size : Int) - ((placeB ts j + k : Nat) : Int) = ((s.size - (placeB ts j + k) : Nat) : Int) by omega]
      exact wrap64_nat (by omega)
    have e3 : IntKind.i64.wrap (((placeB ts j + k : Nat) : Int) + 32) = ((placeB ts j + k + 32 : Nat) : Int) := wrap64_nat (n := placeB ts j + k + 32) (by omega)
    have hmid : s.extract (placeB ts j + k) (placeB ts j + k + 32) = y.extract 0 32 := by
      have h1 : sj.extract k (k + 32) = y.extract 0 32 := by
        rw [hst]
        apply ba_ext
        rw [ba_extract, ba_extract, ba_app, List.drop_take, ← hk', ← ba_len (textB t), List.drop_left' rfl]
        simp
      rw [← h1, ← hsj]
      apply ba_ext
      simp only [ba_extract]
      rw [List.take_of_length_le (l := s.data.toList) (i := s.size) (by rw [ba_len]; exact Nat.le_refl _), List.drop_take, List.drop_take, List.drop_drop]
      congr 1
      omega
    have h0 : (y.extract 0 32).size = 32 := by rw [← ba_len, ba_extract, List.drop_zero, List.length_take, ba_len]; omega
    repeat (first | refine zz ?_ | refine zx fun _ => ?_ | refine runL_q (qt_indexN tok rfl rfl rfl rfl (fun _ => by omega)) rfl rfl rfl ?_ | refine runL_g rfl rfl (qt_indexN tok rfl rfl rfl rfl (fun _ => by omega)) rfl rfl rfl rfl rfl ?_ | refine runL_q (qt_ldM tok rfl hb1 rfl) rfl rfl rfl ?_ | refine runL_g rfl rfl (qt_ldM tok rfl hb1 rfl) rfl rfl rfl rfl rfl ?_ | refine runL_q (qt_ldM0 tok rfl hb1 rfl) rfl rfl rfl ?_ | refine runL_g rfl rfl (qt_ldM0 tok rfl hb1 rfl) rfl rfl rfl rfl rfl ?_ | refine rq (Qt.as (v' := .string sj) (qt_strLo (n := placeB ts j) tok rfl rfl rfl (fun _ => hpl)) (congrArg Value.string hsj)) ?_ | refine rq (Qt.as (v' := .tuple ⟨[.string t, iv k, .int .i64 0]⟩) (qt_callF rfl (fun _ => readText_ok _ _ sj 8192 (by omega) (by decide))) (by rw [hr])) ?_)
    refine run_cond rfl (fun hc => ?_) (fun _ => ?_)
    · exfalso
      rw [e1, e2] at hc
      simp at hc
      omega
    refine run_skip ?_
    refine run_as 4 (iv (placeB ts j + k)) rfl (congrArg (Value.int .i64) e1) ?_
    refine run_seq ?_
    refine run_region ?_
    refine rq (qt_ld tok rfl List.mem_cons_self (ldE_all rfl (by rw [lkC_len, hlk]; rfl))) ?_
    repeat (first | refine wq ?_ | refine wg ?_)
    refine rq (Qt.as (v' := .agg ⟨lkC nx⟩) (qt_callF rfl (fun _ => chNext_ok _ _ (linkB ts j) t hk1 hlk (by omega))) (by rw [hnx])) ?_
    refine ws ?_ rfl rfl rfl (by show (lkC nx).length = 32; rw [lkC_len, hnx32]) (bC_one _) (by (repeat (first | with_reducible apply Upd.here | with_reducible apply Upd.there | with_reducible apply Upd.append_left))) (setE_all (by show (lkC nx).length = (lkC (linkB ts j)).length; rw [lkC_len, lkC_len, hnx32, hlk]))
    refine runL_nil ?_
    refine run_seq ?_
    refine prn_start mixed ?_
    repeat (first | refine dq ?_ | refine dg ?_ | refine prn_q rfl (qt_indexN tok rfl rfl rfl rfl (fun _ => by omega)) (by decide +kernel) rfl rfl rfl ?_ | refine prn_g rfl rfl rfl (qt_indexN tok rfl rfl rfl rfl (fun _ => by omega)) (by decide +kernel) rfl rfl rfl rfl rfl ?_ | refine prn_q rfl (qt_ldM tok rfl hb1 rfl) (by decide +kernel) rfl rfl rfl ?_ | refine prn_g rfl rfl rfl (qt_ldM tok rfl hb1 rfl) (by decide +kernel) rfl rfl rfl rfl rfl ?_ | refine prn_q rfl (qt_ldM0 tok rfl hb1 rfl) (by decide +kernel) rfl rfl rfl ?_ | refine prn_g rfl rfl rfl (qt_ldM0 tok rfl hb1 rfl) (by decide +kernel) rfl rfl rfl rfl rfl ?_)
    refine pr_as 38 (iv (placeB ts j + k + 32)) rfl (congrArg (Value.int .i64) e3) ?_
    refine pq rfl (Qt.as (v' := .string (y.extract 0 32)) (qt_strMid (m := placeB ts j + k) (n := placeB ts j + k + 32) tok rfl rfl rfl rfl (fun _ => ⟨by omega, by omega⟩)) (congrArg Value.string hmid)) ?_
    refine pq rfl (qt_callF rfl (fun _ => chOf_ok _ _ _ h0)) ?_
    have hldx : ldE tt 107 (lkC nx) 0 = some (.agg ⟨lkC nx⟩) := ldE_all rfl (by rw [lkC_len, hnx32]; rfl)
    refine pq rfl (qt_ld tok rfl List.mem_cons_self hldx) ?_
    refine pq rfl (qt_eqLink _ _ h0 hnx32 rfl rfl) ?_
    generalize hisv : decide (y.extract 0 32 = nx) = isv at hget
    repeat (first | refine dq ?_ | refine dg ?_)
    refine prn_end (by decide +kernel) ?_
    refine run_seq ?_
    (refine run_region ?_; (repeat (first | refine zq ?_ | refine zx fun _ => ?_)); refine runL_nil ?_)
    refine run_as 4 (iv (placeB ts j + k + 32)) rfl (congrArg (Value.int .i64) e3) ?_
    refine run_seq ?_
    refine run_region ?_
    repeat (first | refine wq ?_ | refine wg ?_)
    refine rq (qt_ld tok rfl List.mem_cons_self hldx) ?_
    repeat (first | refine wq ?_ | refine wg ?_)
    refine rq (qt_pev tok (sp_build t nx (placeB ts j + k + 32) isv hnx32 rfl)) ?_
    refine ro (st_yield rfl rfl (fun _ => hyield j _ M1 L2 [(bl, .cells ⟨lkC nx⟩ 107 (0, 0))] hget hM1 hI2)) ?_
    rintro v M2 _ ⟨L3, rfl, hM2, hv⟩
    have hM02 := Mem.le_trans hM1 hM2
    rcases hv with ⟨rfl, hI3⟩ | ⟨rfl, hX⟩
    · repeat (first | refine zc ?_ | refine zk ?_ | refine zx fun _ => ?_)
      refine run_cond rfl (fun hc => ?_) (fun hc => ?_)
      · have hisf : isv = false := by simpa using hc
        have hjl : j = ts.length := by
          by_cases hlt : j < ts.length
          · exfalso
            obtain ⟨y', hy', hp', hl'⟩ := at_split h (List.getElem?_eq_getElem hlt)
            rw [hsj, hst] at hy'
            obtain ⟨rfl, hyy⟩ := text_uniq ht (h.sh _ (List.getElem_mem hlt)) hy'
            rw [hnx] at hyy
            have : y.extract 0 32 = nx := by rw [hyy, ← hnx32]; exact ext_left _ _
            rw [this] at hisv
            simp at hisv
            rw [hisv] at hisf
            cases hisf
          · omega
        subst hjl
        exact run_ret hC (rs := []) rfl resN (fun _ h => h.drop) ⟨hM02, .inl (by rw [hlen]; exact hI3)⟩
      · have hist : isv = true := by simpa using hc
        have hye : y.extract 0 32 = nx := by rw [hist] at hisv; exact of_decide_eq_true hisv
        have hjl : j < ts.length := by
          refine Nat.lt_of_le_of_ne hj fun e => ?_
          subst e
          obtain ⟨h1, h2⟩ := at_end h
          rw [hsj] at h1
          refine h.no t (y.extract 32 y.size) ht ?_
          rw [← h1, hst, frB, app_assoc, ← h2, hnx, ← hye]
          congr 1
          exact ext_split y hy32
        obtain ⟨y', hy', hp', hl'⟩ := at_split h (List.getElem?_eq_getElem hjl)
        rw [hsj, hst] at hy'
        obtain ⟨hte, _⟩ := text_uniq ht (h.sh _ (List.getElem_mem hjl)) hy'
        rw [← hte, hk'] at hp'
        rw [← hte, hnx] at hl'
        repeat (first | refine zz ?_ | refine zx fun _ => ?_)
        refine run_sub' (hnext _ _ _ ⟨hjl, hM02, L3, hI3, by rw [hl']; rfl, rfl⟩) ⟨by rw [hp']; rfl, rfl, rfl, rfl, trivial⟩
    · repeat (first | refine zc ?_ | refine zk ?_ | refine zx fun _ => ?_)
      refine run_cond rfl (fun _ => ?_) (fun hc => by cases hc)
      exact run_ret hC (rs := []) rfl resN (fun _ h => h.drop) ⟨hM02, .inr ⟨_, hX⟩⟩
  have hjl : j = ts.length := by
    by_cases hlt : j < ts.length
    · exfalso
      obtain ⟨y', hy', _, _⟩ := at_split h (List.getElem?_eq_getElem hlt)
      rw [hsj] at hy'
      have h1 := text_read (h.sh _ (List.getElem_mem hlt)) (by decide) (nextB (linkB ts j) ts[j] ++ y')
      rw [← hy'] at h1
      refine hgo ⟨by rw [h1], ?_⟩
      rw [h1]
      simp only [Int.toNat_natCast]
      have := congrArg ByteArray.size hy'
      rw [app_size, app_size, nextB_size] at this
      omega
    · omega
  have hsf : stepF (linkB ts j) (placeB ts j) sj = ⟨bz, firstB, 0, false⟩ := by unfold stepF; rw [if_neg hgo]
  rw [hsf] at hget
  have hstop : ((textR sj 8192).2.2 != 0 || decide (IntKind.i64.wrap ((s.size : Int) - IntKind.i64.wrap (((placeB ts j : Nat) : Int) + (textR sj 8192).2.1)) < 32)) = true := by
    by_cases h0 : (textR sj 8192).2.2 = 0
    · obtain ⟨t, ht, hr, hst⟩ := text_back h0
      have h2 := congrArg ByteArray.size hst
      rw [app_size] at h2
      rw [hr] at hgo ⊢
      simp only [Int.toNat_natCast, true_and] at hgo
      have e1 : IntKind.i64.wrap (((placeB ts j : Nat) : Int) + ((textB t).size : Int)) = ((placeB ts j + (textB t).size : Nat) : Int) := wrap64_nat (n := placeB ts j + (textB t).size) (by omega)
      have e2 : IntKind.i64.wrap ((s.size : Int) - ((placeB ts j + (textB t).size : Nat) : Int)) = ((s.size - (placeB ts j + (textB t).size) : Nat) : Int) := by
        rw [show (s.size : Int) - ((placeB ts j + (textB t).size : Nat) : Int) = ((s.size - (placeB ts j + (textB t).size) : Nat) : Int) by omega]
        exact wrap64_nat (by omega)
      simp only [e1, e2]
      simp
      omega
    · simp [h0]
  repeat (first | refine zz ?_ | refine zx fun _ => ?_ | refine runL_q (qt_indexN tok rfl rfl rfl rfl (fun _ => by omega)) rfl rfl rfl ?_ | refine runL_g rfl rfl (qt_indexN tok rfl rfl rfl rfl (fun _ => by omega)) rfl rfl rfl rfl rfl ?_ | refine runL_q (qt_ldM tok rfl hb1 rfl) rfl rfl rfl ?_ | refine runL_g rfl rfl (qt_ldM tok rfl hb1 rfl) rfl rfl rfl rfl rfl ?_ | refine runL_q (qt_ldM0 tok rfl hb1 rfl) rfl rfl rfl ?_ | refine runL_g rfl rfl (qt_ldM0 tok rfl hb1 rfl) rfl rfl rfl rfl rfl ?_ | refine rq (Qt.as (v' := .string sj) (qt_strLo (n := placeB ts j) tok rfl rfl rfl (fun _ => hpl)) (congrArg Value.string hsj)) ?_ | refine rq (qt_callF rfl (fun _ => readText_ok _ _ sj 8192 (by omega) (by decide))) ?_)
  refine run_cond rfl (fun _ => ?_) (fun hc => ?_)
  · repeat (first | refine zz ?_ | refine zx fun _ => ?_)
    refine ro (st_yield (vs := spV ⟨bz, firstB, 0, false⟩) rfl rfl (fun _ => hyield j _ M1 L2 [(bl, .cells ⟨lkC (linkB ts j)⟩ 107 (0, 0))] hget hM1 hI2)) ?_
    rintro v M2 _ ⟨L3, rfl, hM2, hv⟩
    have hM02 := Mem.le_trans hM1 hM2
    refine runL_nil ?_
    subst hjl
    refine run_ret hC (rs := []) rfl resN (fun _ h => h.drop) ⟨hM02, ?_⟩
    rcases hv with ⟨rfl, hI3⟩ | ⟨rfl, hX⟩
    · exact .inl (by rw [hlen]; exact hI3)
    · exact .inr ⟨_, hX⟩
  · exfalso
    have hc' : ((textR sj 8192).2.2 != 0 || decide (IntKind.i64.wrap ((s.size : Int) - IntKind.i64.wrap (((placeB ts j : Nat) : Int) + (textR sj 8192).2.1)) < 32)) = false := hc
    rw [hstop] at hc'
    cases hc'
end Go.Proofs.YtkjljcgbnikmkaaGreatDoor
