import Derived.Test.YtemiflllckincaaLgL
namespace Go.Chi

/-! ### what is ours is lent to one who only reads -/
def Mem.addL (M : Mem) : HL → Mem
  | [] => M
  | x :: L => (Mem.addL M L).add x.1 x.2
theorem Mem.addL_blk {M : Mem} {w : World} : ∀ {L : HL}, Hp M L w → M.le (M.addL L) ∧ (∀ p ∈ L, (M.addL L).blk p.1 = some p.2) ∧ Hp (M.addL L) [] w ∧ ∀ b, b ∉ L.map Prod.fst → (M.addL L).blk b = M.blk b
  | [], h => ⟨Mem.le_refl _, (fun _ h => by cases h), h, fun _ _ => rfl⟩
  | x :: L, h => by
    obtain ⟨h1, h2, h3, h4⟩ := Mem.addL_blk h.drop
    have hx : (M.addL L).blk x.1 = none := by rw [h4 _ (nodup_head h.nodup)]; exact h.apart x List.mem_cons_self
    refine ⟨Mem.le_trans h1 (Mem.add_le hx), fun p hp => ?_, ?_, fun b hb => ?_⟩
    · rcases List.mem_cons.1 hp with rfl | hp
      · exact Mem.add_self _ _ _
      · have hne : p.1 ≠ x.1 := fun e => nodup_head h.nodup (List.mem_map.2 ⟨p, hp, e⟩)
        simp only [Mem.addL, Mem.add, hne, if_false]
        exact h2 p hp
    · have : Hp (M.addL L) [x] w := ⟨h3.os, h3.out, h3.tape, h3.blk, fun p hp => h.own p (by simp at hp; subst hp; simp), by simp, fun p hp => by simp at hp; subst hp; exact hx⟩
      exact Hp.freeze (b := x.1) (o := x.2) this
    · simp only [List.map_cons, List.mem_cons, not_or] at hb
      simp only [Mem.addL, Mem.add, hb.1, if_false]
      exact h4 b hb.2
theorem Hp.back {M : Mem} {L : HL} {w w' : World} (h : Hp M L w) (h' : Hp (M.addL L) [] w') : Hp M L w' := by
  obtain ⟨h1, h2, _, _⟩ := Mem.addL_blk h
  exact ⟨h'.os.trans h1.os, h'.out.trans h1.out, h'.tape.trans h1.tape, fun b o hb => h'.blk b o (h1.blk b o hb), fun p hp => h'.blk p.1 p.2 (h2 p hp), h.nodup, h.apart⟩
/-- a function that only reads may be shown with all blocks known for good -/
theorem TrQ.lend {P : Program} {f : FuncId} {args : List Value} {M : Mem} {L : HL} {v : Value} (hc : ∀ w, (callFunc f ⟨args⟩).run P w = .ok (.enter f ⟨args⟩) w)
    (h : ∀ M', M.le M' → (∀ b o, (b, o) ∈ L → M'.blk b = some o) → TrQ P f args M' [] v) : TrQ P f args M L v := by
  refine ⟨hc, fun w hw => ?_⟩
  obtain ⟨h1, h2, h3, _⟩ := Mem.addL_blk hw
  refine ((h _ h1 fun b o hb => h2 (b, o) hb).2 w h3).mono ?_
  rintro v' w' ⟨M', L', hp, rfl, rfl, rfl⟩
  exact ⟨M, L, hw.back hp, rfl, rfl, rfl⟩
end Go.Chi
