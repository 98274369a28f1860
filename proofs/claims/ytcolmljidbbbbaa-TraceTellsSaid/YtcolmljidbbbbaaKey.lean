import Derived.Test.YtcolmljidbbbbaaW1
namespace Go.Proofs.Ytcolmljidbbbbaa
open Go.Chi
theorem keyTx : KeyLaw Try.prog 26 (fun t : Tx => .agg ⟨txC t⟩) where
  eq := fun a b w => by
    have h := eqv_ok (P := Try.prog) (T := tt) tok (n := 10) (t := 26) (x := .agg ⟨txC a⟩) (y := .agg ⟨txC b⟩) (b := _) rfl 10000 (by omega) w
    unfold Op.equal Op.maxDepth
    refine h.trans ?_
    refine congrArg (fun b => Result.ok b w) ?_
    rw [Bool.eq_iff_iff]
    simp [← Tx.ext_iff' a b]
  chk := fun e a w => by
    have hu : Try.prog.underlying 26 = some (.struct _) := und_ok tok (t := 26) rfl
    rw [Instr.checkKey]
    simp only [Sem.run_bind, run_underlying hu, Result.andThen_ok]
    have c3 : ∀ n : Int, (Instr.checkKey e 9999 3 (.int .i64 n)).run Try.prog w = .ok () w := fun n => chk_plain (und_ok tok (t := 3) rfl) (by intro x h; cases h) (by intro x y h; cases h) (by intro x h; cases h) e 9998 w
    have p0 : (part 3 ⟨txC a⟩ 0).run Try.prog w = .ok (.int .i64 a.coord) w := run_part tok rfl w
    have p1 : (part 3 ⟨txC a⟩ 1).run Try.prog w = .ok (.int .i64 a.epoch) w := run_part tok rfl w
    have p2 : (part 3 ⟨txC a⟩ 2).run Try.prog w = .ok (.int .i64 a.seq) w := run_part tok rfl w
    simp [List.forIn_cons, p0, p1, p2, c3]
  und := ⟨_, und_ok tok (t := 26) rfl, fun a b => .inr rfl⟩
  bits := fun a => by simp [Instr.sameBits, txC]
end Go.Proofs.Ytcolmljidbbbbaa
