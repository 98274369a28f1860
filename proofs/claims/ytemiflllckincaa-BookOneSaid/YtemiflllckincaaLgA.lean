import Derived.RangeFuncIn
import Derived.Laws.AppendOwn
import Derived.RowKit3
import Derived.KernelRfl
namespace Go.Chi

/-- WHAT IS KNOWN OF MEMORY FOR GOOD: blocks that nobody writes any more. -/
structure Mem where
  blk : Nat → Option Obj
  os : Os
  out : Array (Nat × ByteArray)
  tape : Nat → Question → Nat

abbrev HL := List (Nat × Obj)

/-- the world has the blocks of M, and those of L, which are ours alone -/
structure Hp (M : Mem) (L : HL) (w : World) : Prop where
  os : w.os = M.os
  out : w.output = M.out
  tape : w.tape = M.tape
  blk : ∀ b o, M.blk b = some o → w.heap[b]? = some o
  own : ∀ p ∈ L, w.heap[p.1]? = some p.2
  nodup : (L.map Prod.fst).Nodup
  apart : ∀ p ∈ L, M.blk p.1 = none

structure Mem.le (M M' : Mem) : Prop where
  os : M'.os = M.os
  out : M'.out = M.out
  tape : M'.tape = M.tape
  blk : ∀ b o, M.blk b = some o → M'.blk b = some o

theorem Mem.le_refl (M : Mem) : M.le M := ⟨rfl, rfl, rfl, fun _ _ h => h⟩
theorem Mem.le_trans {A B C : Mem} (h : A.le B) (k : B.le C) : A.le C :=
  ⟨k.os.trans h.os, k.out.trans h.out, k.tape.trans h.tape, fun b o x => k.blk b o (h.blk b o x)⟩

def Mem.add (M : Mem) (b : Nat) (o : Obj) : Mem := { M with blk := fun k => if k = b then some o else M.blk k }

theorem Mem.add_le {M : Mem} {b : Nat} {o : Obj} (h : M.blk b = none) : M.le (M.add b o) :=
  ⟨rfl, rfl, rfl, fun k o' hk => by
    have : k ≠ b := fun e => by subst e; rw [h] at hk; cases hk
    simp [Mem.add, this, hk]⟩
theorem Mem.add_self (M : Mem) (b : Nat) (o : Obj) : (M.add b o).blk b = some o := by simp [Mem.add]

theorem nodup_head {x : Nat × Obj} {L : HL} (h : ((x :: L).map Prod.fst).Nodup) : x.1 ∉ L.map Prod.fst := by
  rw [List.map_cons] at h; exact (List.nodup_cons.1 h).1
theorem nodup_tail {x : Nat × Obj} {L : HL} (h : ((x :: L).map Prod.fst).Nodup) : (L.map Prod.fst).Nodup := by
  rw [List.map_cons] at h; exact (List.nodup_cons.1 h).2

/-- a block of ours is given up for good -/
theorem Hp.freeze {M : Mem} {L : HL} {w : World} {b : Nat} {o : Obj} (h : Hp M ((b, o) :: L) w) : Hp (M.add b o) L w where
  os := h.os
  out := h.out
  tape := h.tape
  blk := fun k o' hk => by
    by_cases e : k = b
    · subst e; simp [Mem.add] at hk; subst hk; exact h.own (k, o) (by simp)
    · simp [Mem.add, e] at hk; exact h.blk k o' hk
  own := fun p hp => h.own p (List.mem_cons_of_mem _ hp)
  nodup := (nodup_tail h.nodup)
  apart := fun p hp => by
    have hn := nodup_head h.nodup
    have : p.1 ≠ b := fun e => hn (List.mem_map.2 ⟨p, hp, e⟩)
    simp [Mem.add, this]; exact h.apart p (List.mem_cons_of_mem _ hp)

theorem Hp.apart_head {M : Mem} {L : HL} {w : World} {b : Nat} {o : Obj} (h : Hp M ((b, o) :: L) w) : M.blk b = none := h.apart (b, o) (by simp)

/-- a block of ours is forgotten -/
theorem Hp.drop {M : Mem} {L : HL} {w : World} {x : Nat × Obj} (h : Hp M (x :: L) w) : Hp M L w :=
  ⟨h.os, h.out, h.tape, h.blk, fun p hp => h.own p (List.mem_cons_of_mem _ hp), (nodup_tail h.nodup), fun p hp => h.apart p (List.mem_cons_of_mem _ hp)⟩

theorem Hp.dropAll {M : Mem} {L : HL} {w : World} : ∀ {N : HL}, Hp M (N ++ L) w → Hp M L w
  | [], h => h
  | _ :: _, h => Hp.dropAll (Hp.drop h)

theorem Hp.of_le {M M' : Mem} {L : HL} {w : World} (h : Hp M' L w) (hl : M.le M') : Hp M L w :=
  ⟨h.os.trans hl.os, h.out.trans hl.out, h.tape.trans hl.tape, fun b o x => h.blk b o (hl.blk b o x), h.own, h.nodup,
   fun p hp => by
    cases e : M.blk p.1 with
    | none => rfl
    | some o => have := hl.blk _ _ e; rw [h.apart p hp] at this; cases this⟩

theorem Hp.perm {M : Mem} {L L' : HL} {w : World} (h : Hp M L w) (hp : L.Perm L') : Hp M L' w :=
  ⟨h.os, h.out, h.tape, h.blk, fun p x => h.own p (hp.mem_iff.2 x), (hp.map Prod.fst).nodup_iff.1 h.nodup, fun p x => h.apart p (hp.mem_iff.2 x)⟩

/-- a draw -/
theorem Hp.drawn {M : Mem} {L : HL} {w : World} (h : Hp M L w) (n : Nat) : Hp M L { w with drawn := n } :=
  ⟨h.os, h.out, h.tape, h.blk, h.own, h.nodup, h.apart⟩

theorem Hp.fresh {M : Mem} {L : HL} {w : World} (h : Hp M L w) : M.blk w.heap.size = none ∧ w.heap.size ∉ L.map Prod.fst := by
  constructor
  · cases e : M.blk w.heap.size with
    | none => rfl
    | some o => have := h.blk _ _ e; simp at this
  · intro hm
    obtain ⟨p, hp, e⟩ := List.mem_map.1 hm
    have := h.own p hp; rw [e] at this; simp at this

/-- a new block -/
theorem Hp.push {M : Mem} {L : HL} {w : World} (h : Hp M L w) (o : Obj) : Hp M ((w.heap.size, o) :: L) { w with heap := w.heap.push o } where
  os := h.os
  out := h.out
  tape := h.tape
  blk := fun b o' hb => by
    have := h.blk b o' hb
    have hlt := (Array.getElem?_eq_some_iff.1 this).1
    show (w.heap.push o)[b]? = _
    rw [Array.getElem?_push, if_neg (by omega)]; exact this
  own := fun p hp => by
    rcases List.mem_cons.1 hp with rfl | hp
    · show (w.heap.push o)[w.heap.size]? = _; simp
    · have := h.own p hp
      have hlt := (Array.getElem?_eq_some_iff.1 this).1
      show (w.heap.push o)[p.1]? = _
      rw [Array.getElem?_push, if_neg (by omega)]; exact this
  nodup := by
    show ((w.heap.size, o) :: L |>.map Prod.fst).Nodup
    simp only [List.map_cons]
    exact List.nodup_cons.2 ⟨h.fresh.2, h.nodup⟩
  apart := fun p hp => by
    rcases List.mem_cons.1 hp with rfl | hp
    · exact h.fresh.1
    · exact h.apart p hp

/-- L' is L with block b turned from o to o' -/
def Upd (L : HL) (b : Nat) (o o' : Obj) (L' : HL) : Prop := ∃ A B, L = A ++ (b, o) :: B ∧ L' = A ++ (b, o') :: B

theorem Upd.here (b : Nat) (o o' : Obj) (L : HL) : Upd ((b, o) :: L) b o o' ((b, o') :: L) := ⟨[], L, rfl, rfl⟩
theorem Upd.there (x : Nat × Obj) {L L' : HL} {b : Nat} {o o' : Obj} (h : Upd L b o o' L') : Upd (x :: L) b o o' (x :: L') := by
  obtain ⟨A, B, rfl, rfl⟩ := h
  exact ⟨x :: A, B, rfl, rfl⟩

theorem Upd.mem {L L' : HL} {b : Nat} {o o' : Obj} (h : Upd L b o o' L') : (b, o) ∈ L := by
  obtain ⟨A, B, rfl, rfl⟩ := h; simp

theorem Upd.fsts {L L' : HL} {b : Nat} {o o' : Obj} (h : Upd L b o o' L') : L'.map Prod.fst = L.map Prod.fst := by
  obtain ⟨A, B, rfl, rfl⟩ := h; simp

theorem Upd.cases {L L' : HL} {b : Nat} {o o' : Obj} (h : Upd L b o o' L') (hn : (L.map Prod.fst).Nodup) : ∀ p ∈ L', p = (b, o') ∨ (p ∈ L ∧ p.1 ≠ b) := by
  obtain ⟨A, B, rfl, rfl⟩ := h
  intro p hp
  rw [List.map_append, List.map_cons, List.nodup_append] at hn
  obtain ⟨_, hB, hAB⟩ := hn
  rcases List.mem_append.1 hp with hp | hp
  · exact .inr ⟨List.mem_append_left _ hp, fun e => hAB p.1 (List.mem_map_of_mem hp) b (by simp) e⟩
  · rcases List.mem_cons.1 hp with rfl | hp
    · exact .inl rfl
    · exact .inr ⟨List.mem_append_right _ (List.mem_cons_of_mem _ hp), fun e => (List.nodup_cons.1 hB).1 (List.mem_map.2 ⟨p, hp, e⟩)⟩

/-- a block of ours is turned -/
theorem Hp.upd {M : Mem} {L L' : HL} {w w' : World} {b : Nat} {o o' : Obj} (h : Hp M L w) (hu : Upd L b o o' L')
    (hos : w'.os = w.os) (hout : w'.output = w.output) (htape : w'.tape = w.tape)
    (hb : w'.heap[b]? = some o') (hrest : ∀ k, k ≠ b → w'.heap[k]? = w.heap[k]?) : Hp M L' w' where
  os := hos.trans h.os
  out := hout.trans h.out
  tape := htape.trans h.tape
  blk := fun k o' hk => by
    have hne : k ≠ b := fun e => by
      have := h.apart _ hu.mem
      rw [← e, hk] at this; cases this
    rw [hrest k hne]; exact h.blk k o' hk
  own := fun p hp => by
    rcases hu.cases h.nodup p hp with rfl | ⟨hp, hne⟩
    · exact hb
    · rw [hrest _ hne]; exact h.own p hp
  nodup := by rw [hu.fsts]; exact h.nodup
  apart := fun p hp => by
    rcases hu.cases h.nodup p hp with rfl | ⟨hp, _⟩
    · exact h.apart (b, o) hu.mem
    · exact h.apart p hp

end Go.Chi
