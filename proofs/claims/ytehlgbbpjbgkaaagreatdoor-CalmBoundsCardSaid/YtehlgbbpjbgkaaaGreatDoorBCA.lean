import Derived.RangeFuncIn
import Derived.Laws.AppendOwn
import Derived.RowKit3
import Derived.KernelRfl
import Derived.Orders
import Derived.Laws.StructEq
import Derived.Laws.CopyRow
import Derived.RangeFuncLeaves
import Derived.RangeFuncRecord
import Derived.IntWalk
import Derived.ChangeBook
import Derived.ChangeSame
import Derived.ChangeArms
import Derived.Deep.Slices
import Derived.JoinedOf
import Derived.OpenShut
import Derived.Handed
import Derived.Test.YtehlgbbpjbgkaaaGreatDoorRows
import Derived.Recover
set_option linter.all false
namespace Go.Chi
structure Mem where
  blk : Nat → Option Obj
  os : Os
  out : Array (Nat × ByteArray)
  tape : Nat → Question → Nat
abbrev HL := List (Nat × Obj)
structure Hp (M : Mem) (L : HL) (w : World) : Prop where
  os : w.os = M.os
  out : w.output = M.out
  tape : w.tape = M.tape
  blk : ∀ b o, M.blk b = some o → w.heap[b]? = some o
  own : ∀ p ∈ L, w.heap[p.1]? = some p.2
  nodup : (L.map Prod.fst).Nodup
  apart : ∀ p ∈ L, M.blk p.1 = none
structure Mem.le (M M' : Mem) : Prop where
  os : M'.os = M.os
  out : M'.out = M.out
  tape : M'.tape = M.tape
  blk : ∀ b o, M.blk b = some o → M'.blk b = some o
theorem Mem.le_refl (M : Mem) : M.le M := ⟨rfl, rfl, rfl, fun _ _ h => h⟩
theorem Mem.le_trans {A B C : Mem} (h : A.le B) (k : B.le C) : A.le C :=
  ⟨k.os.trans h.os, k.out.trans h.out, k.tape.trans h.tape, fun b o x => k.blk b o (h.blk b o x)⟩
def Mem.add (M : Mem) (b : Nat) (o : Obj) : Mem := { M with blk := fun k => if k = b then some o else M.blk k }
theorem Mem.add_le {M : Mem} {b : Nat} {o : Obj} (h : M.blk b = none) : M.le (M.add b o) :=
  ⟨rfl, rfl, rfl, fun k o' hk => by
    have : k ≠ b := fun e => by subst e; rw [h] at hk; cases hk
    simp [Mem.add, this, hk]⟩
theorem Mem.add_self (M : Mem) (b : Nat) (o : Obj) : (M.add b o).blk b = some o := by simp [Mem.add]
theorem nodup_head {x : Nat × Obj} {L : HL} (h : ((x :: L).map Prod.fst).Nodup) : x.1 ∉ L.map Prod.fst := by
  rw [List.map_cons] at h; exact (List.nodup_cons.1 h).1
theorem nodup_tail {x : Nat × Obj} {L : HL} (h : ((x :: L).map Prod.fst).Nodup) : (L.map Prod.fst).Nodup := by
  rw [List.map_cons] at h; exact (List.nodup_cons.1 h).2
theorem Hp.freeze {M : Mem} {L : HL} {w : World} {b : Nat} {o : Obj} (h : Hp M ((b, o) :: L) w) : Hp (M.add b o) L w where
  os := h.os
  out := h.out
  tape := h.tape
  blk := fun k o' hk => by
    by_cases e : k = b
    · subst e; simp [Mem.add] at hk; subst hk; exact h.own (k, o) (by simp)
    · simp [Mem.add, e] at hk; exact h.blk k o' hk
  own := fun p hp => h.own p (List.mem_cons_of_mem _ hp)
  nodup := (nodup_tail h.nodup)
  apart := fun p hp => by
    have hn := nodup_head h.nodup
    have : p.1 ≠ b := fun e => hn (List.mem_map.2 ⟨p, hp, e⟩)
    simp [Mem.add, this]; exact h.apart p (List.mem_cons_of_mem _ hp)
theorem Hp.apart_head {M : Mem} {L : HL} {w : World} {b : Nat} {o : Obj} (h : Hp M ((b, o) :: L) w) : M.blk b = none := h.apart (b, o) (by simp)
theorem Hp.drop {M : Mem} {L : HL} {w : World} {x : Nat × Obj} (h : Hp M (x :: L) w) : Hp M L w :=
  ⟨h.os, h.out, h.tape, h.blk, fun p hp => h.own p (List.mem_cons_of_mem _ hp), (nodup_tail h.nodup), fun p hp => h.apart p (List.mem_cons_of_mem _ hp)⟩
theorem Hp.dropAll {M : Mem} {L : HL} {w : World} : ∀ {N : HL}, Hp M (N ++ L) w → Hp M L w
  | [], h => h
  | _ :: _, h => Hp.dropAll (Hp.drop h)
theorem Hp.perm {M : Mem} {L L' : HL} {w : World} (h : Hp M L w) (hp : L.Perm L') : Hp M L' w :=
  ⟨h.os, h.out, h.tape, h.blk, fun p x => h.own p (hp.mem_iff.2 x), (hp.map Prod.fst).nodup_iff.1 h.nodup, fun p x => h.apart p (hp.mem_iff.2 x)⟩
theorem Hp.drawn {M : Mem} {L : HL} {w : World} (h : Hp M L w) (n : Nat) : Hp M L { w with drawn := n } :=
  ⟨h.os, h.out, h.tape, h.blk, h.own, h.nodup, h.apart⟩
theorem Hp.fresh {M : Mem} {L : HL} {w : World} (h : Hp M L w) : M.blk w.heap.size = none ∧ w.heap.size ∉ L.map Prod.fst := by
  constructor
  · cases e : M.blk w.heap.size with
    | none => rfl
    | some o => have := h.blk _ _ e; simp at this
  · intro hm
    obtain ⟨p, hp, e⟩ := List.mem_map.1 hm
    have := h.own p hp; rw [e] at this; simp at this
theorem Hp.push {M : Mem} {L : HL} {w : World} (h : Hp M L w) (o : Obj) : Hp M ((w.heap.size, o) :: L) { w with heap := w.heap.push o } where
  os := h.os
  out := h.out
  tape := h.tape
  blk := fun b o' hb => by
    have := h.blk b o' hb
    have hlt := (Array.getElem?_eq_some_iff.1 this).1
    show (w.heap.push o)[b]? = _
    rw [Array.getElem?_push, if_neg (by omega)]; exact this
  own := fun p hp => by
    rcases List.mem_cons.1 hp with rfl | hp
    · show (w.heap.push o)[w.heap.size]? = _; simp
    · have := h.own p hp
      have hlt := (Array.getElem?_eq_some_iff.1 this).1
      show (w.heap.push o)[p.1]? = _
      rw [Array.getElem?_push, if_neg (by omega)]; exact this
  nodup := by
    show ((w.heap.size, o) :: L |>.map Prod.fst).Nodup
    simp only [List.map_cons]
    exact List.nodup_cons.2 ⟨h.fresh.2, h.nodup⟩
  apart := fun p hp => by
    rcases List.mem_cons.1 hp with rfl | hp
    · exact h.fresh.1
    · exact h.apart p hp
def Upd (L : HL) (b : Nat) (o o' : Obj) (L' : HL) : Prop := ∃ A B, L = A ++ (b, o) :: B ∧ L' = A ++ (b, o') :: B
theorem Upd.here (b : Nat) (o o' : Obj) (L : HL) : Upd ((b, o) :: L) b o o' ((b, o') :: L) := ⟨[], L, rfl, rfl⟩
theorem Upd.there (x : Nat × Obj) {L L' : HL} {b : Nat} {o o' : Obj} (h : Upd L b o o' L') : Upd (x :: L) b o o' (x :: L') := by
  obtain ⟨A, B, rfl, rfl⟩ := h
  exact ⟨x :: A, B, rfl, rfl⟩
theorem Upd.mem {L L' : HL} {b : Nat} {o o' : Obj} (h : Upd L b o o' L') : (b, o) ∈ L := by
  obtain ⟨A, B, rfl, rfl⟩ := h; simp
theorem Upd.fsts {L L' : HL} {b : Nat} {o o' : Obj} (h : Upd L b o o' L') : L'.map Prod.fst = L.map Prod.fst := by
  obtain ⟨A, B, rfl, rfl⟩ := h; simp
theorem Upd.cases {L L' : HL} {b : Nat} {o o' : Obj} (h : Upd L b o o' L') (hn : (L.map Prod.fst).Nodup) : ∀ p ∈ L', p = (b, o') ∨ (p ∈ L ∧ p.1 ≠ b) := by
  obtain ⟨A, B, rfl, rfl⟩ := h
  intro p hp
  rw [List.map_append, List.map_cons, List.nodup_append] at hn
  obtain ⟨_, hB, hAB⟩ := hn
  rcases List.mem_append.1 hp with hp | hp
  · exact .inr ⟨List.mem_append_left _ hp, fun e => hAB p.1 (List.mem_map_of_mem hp) b (by simp) e⟩
  · rcases List.mem_cons.1 hp with rfl | hp
    · exact .inl rfl
    · exact .inr ⟨List.mem_append_right _ (List.mem_cons_of_mem _ hp), fun e => (List.nodup_cons.1 hB).1 (List.mem_map.2 ⟨p, hp, e⟩)⟩
theorem Hp.upd {M : Mem} {L L' : HL} {w w' : World} {b : Nat} {o o' : Obj} (h : Hp M L w) (hu : Upd L b o o' L')
    (hos : w'.os = w.os) (hout : w'.output = w.output) (htape : w'.tape = w.tape)
    (hb : w'.heap[b]? = some o') (hrest : ∀ k, k ≠ b → w'.heap[k]? = w.heap[k]?) : Hp M L' w' where
  os := hos.trans h.os
  out := hout.trans h.out
  tape := htape.trans h.tape
  blk := fun k o' hk => by
    have hne : k ≠ b := fun e => by
      have := h.apart _ hu.mem
      rw [← e, hk] at this; cases this
    rw [hrest k hne]; exact h.blk k o' hk
  own := fun p hp => by
    rcases hu.cases h.nodup p hp with rfl | ⟨hp, hne⟩
    · exact hb
    · rw [hrest _ hne]; exact h.own p hp
  nodup := by rw [hu.fsts]; exact h.nodup
  apart := fun p hp => by
    rcases hu.cases h.nodup p hp with rfl | ⟨hp, _⟩
    · exact h.apart (b, o) hu.mem
    · exact h.apart p hp
end Go.Chi
namespace Go.Chi
def J (P : Program) (cs : List Frame) (Φ : Frame → World → Prop) (fr : Frame) (w : World) : Prop :=
  ∃ fr' w', Steps P (lone fr cs w) (lone fr' cs w') ∧ Φ fr' w'
section
variable {P : Program} {cs : List Frame} {Φ : Frame → World → Prop} {fr fr1 : Frame} {w w1 : World}
theorem J.steps (h : Steps P (lone fr cs w) (lone fr1 cs w1)) (hj : J P cs Φ fr1 w1) : J P cs Φ fr w := by
  obtain ⟨fr', w', hs, hp⟩ := hj
  exact ⟨fr', w', h.trans hs, hp⟩
theorem J.step (h : step P (lone fr cs w) = .next (lone fr1 cs w1)) (hj : J P cs Φ fr1 w1) : J P cs Φ fr w := J.steps (.one h) hj
theorem J.done (h : Φ fr w) : J P cs Φ fr w := ⟨fr, w, .refl _ _, h⟩
end
def Fn (P : Program) (f : FuncId) (args : Array Value) (w : World) (R : Value → World → Prop) : Prop :=
  ∀ cs, ∃ v w' fr, R v w' ∧ Steps P (lone (Frame.enter P f args .normal) cs w) (lone fr cs w') ∧ fr.fn = f ∧ fr.leaving P w' (.returned v)
theorem Fn.calls {P : Program} {f : FuncId} {args : Array Value} {w : World} {R : Value → World → Prop} (h : Fn P f args w R) :
    Calls P f args w (fun e w' => ∃ v, e = .returned v ∧ R v w') :=
  fun cs => let ⟨v, w', fr, r, s, e, l⟩ := h cs; ⟨.returned v, w', fr, ⟨v, rfl, r⟩, s, e, l⟩
theorem Fn.mono {P : Program} {f : FuncId} {args : Array Value} {w : World} {R R' : Value → World → Prop} (h : Fn P f args w R) (hr : ∀ v w', R v w' → R' v w') : Fn P f args w R' :=
  fun cs => let ⟨v, w', fr, r, x⟩ := h cs; ⟨v, w', fr, hr _ _ r, x⟩
def Rd (P : Program) (l : Nat) (f : FuncId) (tmps : Array Value) (assign body : Code) (w : World) (R : Value → World → Prop) : Prop :=
  ∀ (c : Frame) (cs : List Frame), ∃ v w', R v w' ∧ Steps P (lone (Frame.round l f tmps assign body .normal) (c :: cs) w) (lone (c.finish v) cs w')
theorem Rd.mono {P : Program} {l : Nat} {f : FuncId} {tmps : Array Value} {assign body : Code} {w : World} {R R' : Value → World → Prop} (h : Rd P l f tmps assign body w R) (hr : ∀ v w', R v w' → R' v w') : Rd P l f tmps assign body w R' :=
  fun c cs => let ⟨v, w', r, x⟩ := h c cs; ⟨v, w', hr _ _ r, x⟩
def OpRes (P : Program) (K : Value → World → Prop) : Result Next → Prop
  | .ok (.value v) w' => K v w'
  | .ok .skip w' => K undef w'
  | .ok (.enter f args) w' => Fn P f args w' K
  | .ok (.round l f tmps assign body) w' => Rd P l f tmps assign body w' K
  | _ => False
def OpWp (P : Program) (ro : Option Nat) (o : Oper) (a : Act) (w : World) (K : Value → World → Prop) : Prop :=
  OpRes P K ((o.semAt ro a.eval).run P w)
section
variable {P : Program} {ro : Option Nat} {o : Oper} {a : Act} {w w' : World} {v : Value} {K : Value → World → Prop}
theorem OpRes.mono {K' : Value → World → Prop} (hk : ∀ v w', K v w' → K' v w') : ∀ {r : Result Next}, OpRes P K r → OpRes P K' r
  | .ok (.value _) _, h => hk _ _ h
  | .ok .skip _, h => hk _ _ h
  | .ok (.enter _ _) _, h => Fn.mono h hk
  | .ok (.round _ _ _ _ _) _, h => Rd.mono h hk
  | .ok (.defer _) _, h => h.elim
  | .ok .recover _, h => h.elim
  | .ok (.spawn _) _, h => h.elim
  | .ok (.comm _ _ _) _, h => h.elim
  | .ok .numGoroutine _, h => h.elim
  | .ok .collect _, h => h.elim
  | .ok (.watch _) _, h => h.elim
  | .ok (.newcoro _ _) _, h => h.elim
  | .ok (.coroswitch _ _) _, h => h.elim
  | .ok (.sleep _) _, h => h.elim
  | .ok (.timer _) _, h => h.elim
  | .ok (.alone _ _) _, h => h.elim
  | .ok (.callThen _ _ _ _) _, h => h.elim
  | .ok (.row _ _) _, h => h.elim
  | .ok (.stack _ _) _, h => h.elim
  | .halt _ _, h => h.elim
theorem OpWp.mono {K' : Value → World → Prop} (h : OpWp P ro o a w K) (hk : ∀ v w', K v w' → K' v w') : OpWp P ro o a w K' := OpRes.mono hk h
theorem finish_op {b : Frame} {ops : Array Oper} {i : Nat} {rest : List Nat} {k : List Item} (ho : ops[i]? = some o) (v : Value) :
    (b.atR a (.inRegion ops (i :: rest) :: k)).finish v = b.atR (a.put o.dst v) (.inRegion ops rest :: k) := by
  rw [Frame.finish_atR, ho]; rfl
theorem OpWp.steps (h : OpWp P ro o a w K) (b : Frame) (ops : Array Oper) (i : Nat) (rest : List Nat) (k : List Item) (cs : List Frame) (hb : b.roundOf = ro) (ho : ops[i]? = some o) (hw : Region.wanted o (yielded ops a.tmps) = true) :
    ∃ v w', K v w' ∧ Steps P (lone (b.atR a (.inRegion ops (i :: rest) :: k)) cs w) (lone (b.atR (a.put o.dst v) (.inRegion ops rest :: k)) cs w') := by
  have hg := stepGR_op (P := P) (b := b) (k := k) (cs := cs) (w := w) (rest := rest) ho hw
  rw [hb] at hg
  unfold OpWp at h
  cases hr : (o.semAt ro a.eval).run P w with
  | halt x w' => rw [hr] at h; exact h.elim
  | ok nx w1 =>
    rw [hr] at h
    cases nx with
    | value v =>
      refine ⟨v, w1, h, .one (step_lone_go ?_)⟩
      rw [hg, ← finish_op ho]; simp [stepG.apply, hr]
    | skip =>
      refine ⟨undef, w1, h, .one (step_lone_go ?_)⟩
      rw [hg, ← finish_op ho]; simp [stepG.apply, hr]
    | enter f args =>
      obtain ⟨v, w'', fr, hR, hs, _, hl⟩ := (show Fn P f args w1 K from h) (b.atR a (.inRegion ops (i :: rest) :: k) :: cs)
      have henter : step P (lone (b.atR a (.inRegion ops (i :: rest) :: k)) cs w) =
          .next (lone (Frame.enter P f args .normal) (b.atR a (.inRegion ops (i :: rest) :: k) :: cs) w1) :=
        step_lone_go (by rw [hg]; simp [stepG.apply, hr, Frame.atR])
      refine ⟨v, w'', hR, .head henter (hs.trans (.one ?_))⟩
      rw [← finish_op ho]; exact step_leave_returned hl
    | round l f tmps assign body =>
      obtain ⟨v, w'', hR, hs⟩ := (show Rd P l f tmps assign body w1 K from h) (b.atR a (.inRegion ops (i :: rest) :: k)) cs
      have henter : step P (lone (b.atR a (.inRegion ops (i :: rest) :: k)) cs w) =
          .next (lone (Frame.round l f tmps assign body .normal) (b.atR a (.inRegion ops (i :: rest) :: k) :: cs) w1) :=
        step_lone_go (by rw [hg]; simp [stepG.apply, hr, Frame.atR])
      refine ⟨v, w'', hR, .head henter ?_⟩
      rw [← finish_op ho]; exact hs
    | _ => exact h.elim
theorem opWp_value (h : (o.semAt ro a.eval).run P w = .ok (.value v) w') (hk : K v w') : OpWp P ro o a w K := by
  unfold OpWp; rw [h]; exact hk
theorem opWp_skip (h : (o.semAt ro a.eval).run P w = .ok .skip w') (hk : K undef w') : OpWp P ro o a w K := by
  unfold OpWp; rw [h]; exact hk
theorem opWp_enter {f : FuncId} {args : Array Value} (h : (o.semAt ro a.eval).run P w = .ok (.enter f args) w') (hk : Fn P f args w' K) : OpWp P ro o a w K := by
  unfold OpWp; rw [h]; exact hk
end
abbrev Env := List (Nat × Value)
abbrev Path := List (Nat × Bool)
abbrev Den := List (Nat × Path × Value)
def lks : Env → Nat → Option Value
  | [], _ => none
  | (t, v) :: σ, k => match Nat.beq t k with | true => some v | false => lks σ k
def lkd : Den → Nat → Option (Path × Value)
  | [], _ => none
  | (t, p, v) :: σ, k => match Nat.beq t k with | true => some (p, v) | false => lkd σ k
def inPath : Path → Nat → Bool → Bool
  | [], _, _ => false
  | (s, true) :: p, k, true => match Nat.beq s k with | true => true | false => inPath p k true
  | (s, false) :: p, k, false => match Nat.beq s k with | true => true | false => inPath p k false
  | _ :: p, k, b => inPath p k b
def knows (σ : Env) (s : Nat) (b : Bool) : Bool :=
  match lks σ s, b with
  | some (.bool true), true => true
  | some (.bool false), false => true
  | _, _ => false
def okP (σ : Env) (cur : Path) : Path → Bool
  | [] => true
  | (s, b) :: p => match inPath cur s b with | true => okP σ cur p | false => match knows σ s b with | true => okP σ cur p | false => false
def lka (σ : Env) (δ : Den) (cur : Path) (t : Nat) : Option Value :=
  match lkd δ t with
  | some (p, v) => match okP σ cur p with | true => some v | false => none
  | none => lks σ t
def ev (σ : Env) (δ : Den) (cur : Path) : Operand → Option Value
  | .tmp t => lka σ δ cur t
  | .const v => some v
  | .global g => some (.pointer (some ⟨g, 0, none⟩))
  | .func f => some (.func (.func f) #[] #[])
def evs (σ : Env) (δ : Den) (cur : Path) : List Operand → Option (List Value)
  | [] => some []
  | x :: l => match ev σ δ cur x with
    | some v => match evs σ δ cur l with
      | some vs => some (v :: vs)
      | none => none
    | none => none
def unNamed : Den → Nat → Bool
  | [], _ => true
  | (_, p, _) :: δ, d => match p.any (fun x => Nat.beq x.1 d) with | true => false | false => unNamed δ d
def holds (a : Act) (p : Path) : Prop := ∀ x ∈ p, a.tmps[x.1]? = some (.bool x.2)
structure Sees (σ : Env) (δ : Den) (a : Act) : Prop where
  s : ∀ t v, lks σ t = some v → a.tmps[t]? = some v
  d : ∀ t p v, lkd δ t = some (p, v) → (holds a p → a.tmps[t]? = some v) ∧ (¬ holds a p → a.tmps[t]? = some undef)
theorem inPath_mem : ∀ {p : Path} {s : Nat} {b : Bool}, inPath p s b = true → (s, b) ∈ p
  | [], _, _, h => by simp [inPath] at h
  | (k, c) :: p, s, b, h => by
    cases c <;> cases b <;> simp only [inPath] at h
    all_goals first
      | exact List.mem_cons_of_mem _ (inPath_mem h)
      | (split at h
         · rename_i e; have := Nat.eq_of_beq_eq_true e; subst this; exact List.mem_cons_self
         · exact List.mem_cons_of_mem _ (inPath_mem h))
theorem knows_sound {σ : Env} {δ : Den} {a : Act} (hs : Sees σ δ a) {s : Nat} {b : Bool} (h : knows σ s b = true) : a.tmps[s]? = some (.bool b) := by
  unfold knows at h
  split at h
  · rename_i e; exact hs.s _ _ e
  · rename_i e; exact hs.s _ _ e
  · cases h
theorem okP_sound {σ : Env} {δ : Den} {a : Act} (hs : Sees σ δ a) {cur : Path} (hc : holds a cur) : ∀ {p : Path}, okP σ cur p = true → holds a p
  | [], _ => fun x hx => by cases hx
  | (s, b) :: p, h => by
    simp only [okP] at h
    split at h
    · rename_i e
      intro x hx
      rcases List.mem_cons.1 hx with rfl | hx
      · exact hc _ (inPath_mem e)
      · exact okP_sound hs hc h x hx
    · split at h
      · rename_i e
        intro x hx
        rcases List.mem_cons.1 hx with rfl | hx
        · exact knows_sound hs e
        · exact okP_sound hs hc h x hx
      · cases h
theorem lka_sound {σ : Env} {δ : Den} {a : Act} (hs : Sees σ δ a) {cur : Path} (hc : holds a cur) {t : Nat} {v : Value} (h : lka σ δ cur t = some v) : a.tmps[t]? = some v := by
  unfold lka at h
  split at h
  · rename_i p v' e
    split at h
    · rename_i ok
      cases h
      exact (hs.d _ _ _ e).1 (okP_sound hs hc ok)
    · cases h
  · exact hs.s _ _ h
theorem ev_sound {σ : Env} {δ : Den} {a : Act} (hs : Sees σ δ a) {cur : Path} (hc : holds a cur) {x : Operand} {v : Value} (h : ev σ δ cur x = some v) : a.eval x = v := by
  cases x with
  | tmp t =>
    have := lka_sound hs hc h
    simp [Act.eval, Array.getD_eq_getD_getElem?, this]
  | const v' => simp [ev] at h; simpa [Act.eval] using h
  | global g => simp [ev] at h; simpa [Act.eval] using h
  | func f => simp [ev] at h; simpa [Act.eval] using h
theorem evs_sound {σ : Env} {δ : Den} {a : Act} (hs : Sees σ δ a) {cur : Path} (hc : holds a cur) : ∀ {l : List Operand} {vs : List Value}, evs σ δ cur l = some vs → l.map a.eval = vs
  | [], vs, h => by simp [evs] at h; simpa using h
  | x :: l, vs, h => by
    simp only [evs] at h
    split at h
    · rename_i v e
      split at h
      · rename_i vs' e'
        cases h
        simp [ev_sound hs hc e, evs_sound hs hc e']
      · cases h
    · cases h
def hyp (σ : Env) (δ : Den) (s : Nat) (b : Bool) : Prop :=
  match lkd δ s with
  | some (_, .bool c) => c = b
  | some _ => True
  | none => match lks σ s with
    | some (.bool c) => c = b
    | _ => True
def Hy (σ : Env) (δ : Den) : Path → Prop
  | [] => True
  | (s, b) :: p => hyp σ δ s b ∧ Hy σ δ p
theorem hyp_of {σ : Env} {δ : Den} {a : Act} (hs : Sees σ δ a) {s : Nat} {b : Bool} (h : a.tmps[s]? = some (.bool b)) : hyp σ δ s b := by
  unfold hyp
  split
  · rename_i p c e
    have := hs.d _ _ _ e
    by_cases hp : holds a p
    · have := this.1 hp; rw [h] at this; injection this with this; injection this with this; exact this.symm
    · have := this.2 hp; rw [h] at this; injection this with this; simp [undef] at this
  · trivial
  · split
    · rename_i c e
      have := hs.s _ _ e; rw [h] at this; injection this with this; injection this with this; exact this.symm
    · trivial
theorem Hy_of {σ : Env} {δ : Den} {a : Act} (hs : Sees σ δ a) : ∀ {cur : Path}, holds a cur → Hy σ δ cur
  | [], _ => trivial
  | (s, b) :: p, h => ⟨hyp_of hs (h (s, b) (by simp)), Hy_of hs fun x hx => h x (List.mem_cons_of_mem _ hx)⟩
theorem Sees.nil {σ : Env} {δ : Den} {a : Act} (h : Sees σ δ a) : Sees σ [] a := ⟨h.s, fun t p v e => by simp [lkd] at e⟩
theorem lks_cons {t : Nat} {v : Value} {σ : Env} {k : Nat} : lks ((t, v) :: σ) k = if t = k then some v else lks σ k := by
  show (match Nat.beq t k with | true => some v | false => lks σ k) = _
  cases h : Nat.beq t k
  · rw [if_neg (Nat.ne_of_beq_eq_false h)]
  · rw [if_pos (Nat.eq_of_beq_eq_true h)]
theorem lkd_cons {t : Nat} {p : Path} {v : Value} {σ : Den} {k : Nat} : lkd ((t, p, v) :: σ) k = if t = k then some (p, v) else lkd σ k := by
  show (match Nat.beq t k with | true => some (p, v) | false => lkd σ k) = _
  cases h : Nat.beq t k
  · rw [if_neg (Nat.ne_of_beq_eq_false h)]
  · rw [if_pos (Nat.eq_of_beq_eq_true h)]
theorem unNamed_sound : ∀ {δ : Den} {d : Nat}, unNamed δ d = true → ∀ t p v, lkd δ t = some (p, v) → ∀ x ∈ p, x.1 ≠ d
  | [], _, _, t, p, v, h => by simp [lkd] at h
  | (t', p', v') :: δ, d, hu, t, p, v, h => by
    simp only [unNamed] at hu
    split at hu
    · cases hu
    · rename_i e
      rw [lkd_cons] at h
      split at h
      · cases h
        intro x hx hd
        have : p'.any (fun x => Nat.beq x.1 d) = true := List.any_eq_true.2 ⟨x, hx, by rw [hd]; exact Nat.beq_refl d⟩
        rw [e] at this; cases this
      · exact unNamed_sound hu t p v h
theorem Sees.put {σ : Env} {δ : Den} {a : Act} (h : Sees σ δ a) {d : Nat} (hd : d < a.tmps.size) (hn : lkd δ d = none) (hu : unNamed δ d = true) (v : Value) :
    Sees ((d, v) :: σ) δ (a.put (some d) v) := by
  have hget : ∀ t, (a.put (some d) v).tmps[t]? = if t = d then some v else a.tmps[t]? := fun t => by
    show (a.tmps.setIfInBounds d v)[t]? = _
    by_cases e : t = d
    · subst e; simp [hd]
    · rw [if_neg e, Array.getElem?_setIfInBounds_ne (fun x => e x.symm)]
  have hh : ∀ t p v', lkd δ t = some (p, v') → (holds (a.put (some d) v) p ↔ holds a p) := fun t p v' e => by
    have hx := unNamed_sound hu t p v' e
    constructor
    · intro hp x hxp; have := hp x hxp; rwa [hget, if_neg (hx x hxp)] at this
    · intro hp x hxp; rw [hget, if_neg (hx x hxp)]; exact hp x hxp
  constructor
  · intro t v' e
    rw [lks_cons] at e
    rw [hget]
    split at e
    · rename_i he; cases e; rw [if_pos he.symm]
    · rename_i he; rw [if_neg (fun x => he x.symm)]; exact h.s _ _ e
  · intro t p v' e
    have hne : t ≠ d := fun x => by subst x; rw [hn] at e; cases e
    rw [hh t p v' e, hget, if_neg hne]
    exact h.d _ _ _ e
theorem Sees.putG {σ : Env} {δ : Den} {a : Act} (h : Sees σ δ a) {d : Nat} (hd : d < a.tmps.size) (hn : lkd δ d = none) (hs : lks σ d = none) (hu : unNamed δ d = true) {p : Path} (hp : ∀ x ∈ p, x.1 ≠ d) {v v' : Value}
    (hv : (holds a p → v' = v) ∧ (¬ holds a p → v' = undef)) :
    Sees σ ((d, p, v) :: δ) (a.put (some d) v') := by
  have hget : ∀ t, (a.put (some d) v').tmps[t]? = if t = d then some v' else a.tmps[t]? := fun t => by
    show (a.tmps.setIfInBounds d v')[t]? = _
    by_cases e : t = d
    · subst e; simp [hd]
    · rw [if_neg e, Array.getElem?_setIfInBounds_ne (fun x => e x.symm)]
  have hh : ∀ q : Path, (∀ x ∈ q, x.1 ≠ d) → (holds (a.put (some d) v') q ↔ holds a q) := fun q hx => by
    constructor
    · intro hp x hxp; have := hp x hxp; rwa [hget, if_neg (hx x hxp)] at this
    · intro hp x hxp; rw [hget, if_neg (hx x hxp)]; exact hp x hxp
  constructor
  · intro t u e
    have hne : t ≠ d := fun x => by subst x; rw [hs] at e; cases e
    rw [hget, if_neg hne]; exact h.s _ _ e
  · intro t q u e
    rw [lkd_cons] at e
    split at e
    · rename_i he
      cases e
      rw [hh _ hp, hget, if_pos he.symm]
      exact ⟨fun x => by rw [hv.1 x], fun x => by rw [hv.2 x]⟩
    · rename_i he
      rw [hh q (unNamed_sound hu t q u e), hget, if_neg (fun x => he x.symm)]
      exact h.d _ _ _ e
theorem put_size (a : Act) (d : Option Tmp) (v : Value) : (a.put d v).tmps.size = a.tmps.size := by cases d <;> simp [Act.put]
theorem put_defers (a : Act) (d : Option Tmp) (v : Value) : (a.put d v).defers = a.defers := by cases d <;> simp [Act.put]
end Go.Chi
namespace Go.Chi
structure Cx where
  b : Frame
  cs : List Frame
  Φ : Frame → World → Prop
def Run (P : Program) (C : Cx) (n : Nat) (k : List Item) (ds : List Deferred) (σ : Env) (M : Mem) (L : HL) : Prop :=
  ∀ a w, a.tmps.size = n → a.defers = ds → Sees σ [] a → Hp M L w → J P C.cs C.Φ (C.b.atR a k) w
def RunL (P : Program) (C : Cx) (n : Nat) (ops : Array Oper) (l : List Oper) (k : List Item) (ds : List Deferred) (σ : Env) (δ : Den) (M : Mem) (L : HL) : Prop :=
  ∀ a w idx, a.tmps.size = n → a.defers = ds → Sees σ δ a → Hp M L w → idx.map (fun i => ops[i]?) = l.map some → J P C.cs C.Φ (C.b.atR a (.inRegion ops idx :: k)) w
def St (P : Program) (ro : Option Nat) (o : Oper) (σ : Env) (δ : Den) (cur : Path) (M : Mem) (L : HL) (K : Value → Mem → HL → Prop) : Prop :=
  ∀ a w, Sees σ δ a → holds a cur → Hp M L w → OpWp P ro o a w (fun v w' => ∃ M' L', Hp M' L' w' ∧ K v M' L')
def Qt (P : Program) (ro : Option Nat) (o : Oper) (σ : Env) (δ : Den) (cur : Path) (M : Mem) (L : HL) (v : Value) : Prop :=
  St P ro o σ δ cur M L (fun v' M' L' => v' = v ∧ M' = M ∧ L' = L)
theorem St.mono {P : Program} {ro : Option Nat} {o : Oper} {σ : Env} {δ : Den} {cur : Path} {M : Mem} {L : HL} {K K' : Value → Mem → HL → Prop}
    (h : St P ro o σ δ cur M L K) (hk : ∀ v M' L', K v M' L' → K' v M' L') : St P ro o σ δ cur M L K' :=
  fun a w h1 h2 h3 => (h a w h1 h2 h3).mono fun _ _ ⟨M', L', h4, h5⟩ => ⟨M', L', h4, hk _ _ _ h5⟩
section
variable {P : Program} {C : Cx} {n : Nat} {k : List Item} {ds : List Deferred} {σ : Env} {δ : Den} {M : Mem} {L : HL} {ops : Array Oper}
theorem holds_nil (a : Act) : holds a [] := fun x hx => by cases hx
theorem run_seq {x y : Code} (h : Run P C n (.code x :: .code y :: k) ds σ M L) : Run P C n (.code (.seq x y) :: k) ds σ M L :=
  fun a w h1 h2 h3 h4 => J.step stepR_seq (h a w h1 h2 h3 h4)
theorem run_skip (h : Run P C n k ds σ M L) : Run P C n (.code .skip :: k) ds σ M L :=
  fun a w h1 h2 h3 h4 => J.step stepR_skip (h a w h1 h2 h3 h4)
theorem run_block {id : Nat} {c : Code} (h : Run P C n (.code c :: .inBlock id :: k) ds σ M L) : Run P C n (.code (.block id c) :: k) ds σ M L :=
  fun a w h1 h2 h3 h4 => J.step stepR_block (h a w h1 h2 h3 h4)
theorem run_inBlock {id : Nat} (h : Run P C n k ds σ M L) : Run P C n (.inBlock id :: k) ds σ M L :=
  fun a w h1 h2 h3 h4 => J.step stepR_inBlock (h a w h1 h2 h3 h4)
theorem run_loop {c : Code} (h : Run P C n (.code c :: .inLoop c :: k) ds σ M L) : Run P C n (.code (.loop c) :: k) ds σ M L :=
  fun a w h1 h2 h3 h4 => J.step stepR_loop (h a w h1 h2 h3 h4)
theorem run_inLoop {c : Code} (h : Run P C n (.code c :: .inLoop c :: k) ds σ M L) : Run P C n (.inLoop c :: k) ds σ M L :=
  fun a w h1 h2 h3 h4 => J.step stepR_inLoop (h a w h1 h2 h3 h4)
theorem run_exit {id : Nat} {k' : List Item} (hk : exitTo id k = some k') (h : Run P C n k' ds σ M L) : Run P C n (.code (.exit id) :: k) ds σ M L :=
  fun a w h1 h2 h3 h4 => J.step (stepR_exit hk) (h a w h1 h2 h3 h4)
theorem run_cond {c : Operand} {x y : Code} {t : Bool} (hc : ev σ [] [] c = some (.bool t)) (ht : t = true → Run P C n (.code x :: k) ds σ M L) (hf : t = false → Run P C n (.code y :: k) ds σ M L) :
    Run P C n (.code (.cond c x y) :: k) ds σ M L := fun a w h1 h2 h3 h4 => by
  have he := ev_sound h3 (holds_nil a) hc
  refine J.step (stepR_cond he) ?_
  cases t
  · exact hf rfl a w h1 h2 h3 h4
  · exact ht rfl a w h1 h2 h3 h4
def subE (σ : Env) : Env → Prop
  | [] => True
  | (t, v) :: σ' => lks σ t = some v ∧ subE σ σ'
theorem subE_sound {σ : Env} : ∀ {σ' : Env}, subE σ σ' → ∀ t v, lks σ' t = some v → lks σ t = some v
  | [], _, t, v, h => by simp [lks] at h
  | (t', v') :: σ', hs, t, v, h => by
    rw [lks_cons] at h
    split at h
    · rename_i e; cases h; subst e; exact hs.1
    · exact subE_sound hs.2 t v h
theorem run_sub (σ' : Env) (hs : subE σ σ') (h : Run P C n k ds σ' M L) : Run P C n k ds σ M L :=
  fun a w h1 h2 h3 h4 => h a w h1 h2 ⟨fun t v e => h3.s t v (subE_sound hs t v e), fun t p v e => by simp [lkd] at e⟩ h4
theorem run_mem {M' : Mem} {L' : HL} (hm : ∀ w, Hp M L w → Hp M' L' w) (h : Run P C n k ds σ M' L') : Run P C n k ds σ M L :=
  fun a w h1 h2 h3 h4 => h a w h1 h2 h3 (hm w h4)
theorem range_map (ops : Array Oper) : (List.range ops.size).map (fun i => ops[i]?) = ops.toList.map some := by
  apply List.ext_getElem
  · simp
  · intro i h1 h2
    simp at h1
    simp [h1]
theorem run_region {id : Nat} (h : RunL P C n ops ops.toList k ds σ [] M L) : Run P C n (.code (.region id ops false) :: k) ds σ M L :=
  fun a w h1 h2 h3 h4 => J.step stepR_region (h a w _ h1 h2 h3 h4 (range_map ops))
theorem runL_nil (h : Run P C n k ds σ M L) : RunL P C n ops [] k ds σ δ M L := fun a w idx h1 h2 h3 h4 h5 => by
  cases idx with
  | nil => exact J.step stepR_region_end (h a w h1 h2 h3.nil h4)
  | cons i r => simp at h5
theorem wanted_none {o : Oper} (h : o.guard = none) (y : Nat → Option Bool) : Region.wanted o y = true := by simp [Region.wanted, h]
theorem runL_op {d : Nat} {op : Op} {ty : TypeId} {pos : String} {aft : Array Edge} {l : List Oper} {K : Value → Mem → HL → Prop}
    (hst : St P C.b.roundOf ⟨some d, op, ty, pos, aft, none⟩ σ δ [] M L K) (hd : Nat.blt d n = true) (hn : lkd δ d = none) (hu : unNamed δ d = true)
    (h : ∀ v M' L', K v M' L' → RunL P C n ops l k ds ((d, v) :: σ) δ M' L') : RunL P C n ops (⟨some d, op, ty, pos, aft, none⟩ :: l) k ds σ δ M L := fun a w idx h1 h2 h3 h4 h5 => by
  cases idx with
  | nil => simp at h5
  | cons i r =>
    simp only [List.map_cons, List.cons.injEq] at h5
    obtain ⟨v, w', ⟨M', L', hp, hK⟩, hs⟩ := (hst a w h3 (holds_nil a) h4).steps C.b ops i r k C.cs rfl h5.1 (wanted_none rfl _)
    have hd' : d < a.tmps.size := by rw [h1]; exact Nat.blt_eq.mp hd
    exact J.steps hs (h v M' L' hK _ w' r (by rw [put_size]; exact h1) (by rw [put_defers]; exact h2) (h3.put hd' hn hu v) hp h5.2)
theorem runL_op0 {op : Op} {ty : TypeId} {pos : String} {aft : Array Edge} {l : List Oper} {K : Value → Mem → HL → Prop}
    (hst : St P C.b.roundOf ⟨none, op, ty, pos, aft, none⟩ σ δ [] M L K)
    (h : ∀ v M' L', K v M' L' → RunL P C n ops l k ds σ δ M' L') : RunL P C n ops (⟨none, op, ty, pos, aft, none⟩ :: l) k ds σ δ M L := fun a w idx h1 h2 h3 h4 h5 => by
  cases idx with
  | nil => simp at h5
  | cons i r =>
    simp only [List.map_cons, List.cons.injEq] at h5
    obtain ⟨v, w', ⟨M', L', hp, hK⟩, hs⟩ := (hst a w h3 (holds_nil a) h4).steps C.b ops i r k C.cs rfl h5.1 (wanted_none rfl _)
    exact J.steps hs (h v M' L' hK _ w' r h1 h2 h3 hp h5.2)
theorem runL_q {d : Nat} {op : Op} {ty : TypeId} {pos : String} {aft : Array Edge} {l : List Oper} {v : Value}
    (hst : Qt P C.b.roundOf ⟨some d, op, ty, pos, aft, none⟩ σ δ [] M L v) (hd : Nat.blt d n = true) (hn : lkd δ d = none) (hu : unNamed δ d = true)
    (h : RunL P C n ops l k ds ((d, v) :: σ) δ M L) : RunL P C n ops (⟨some d, op, ty, pos, aft, none⟩ :: l) k ds σ δ M L :=
  runL_op hst hd hn hu fun v' M' L' ⟨e1, e2, e3⟩ => by subst e1 e2 e3; exact h
def slotOf (ops : Array Oper) (j : Nat) : Option Nat := (ops[j]?).bind (·.dst)
def lkg (σ : Env) (δ : Den) (s : Nat) : Option (Path × Value) :=
  match lkd δ s with
  | some x => some x
  | none => match lks σ s with | some v => some ([], v) | none => none
def unP (p : Path) (d : Nat) : Bool := match p.any (fun x => Nat.beq x.1 d) with | true => false | false => true
theorem unP_sound {p : Path} {d : Nat} (h : unP p d = true) : ∀ x ∈ p, x.1 ≠ d := fun x hx e => by
  unfold unP at h
  have : p.any (fun x => Nat.beq x.1 d) = true := List.any_eq_true.2 ⟨x, hx, by rw [e]; exact Nat.beq_refl d⟩
  rw [this] at h; cases h
theorem lkg_sound {a : Act} (hs : Sees σ δ a) {s : Nat} {p : Path} {v : Value} (h : lkg σ δ s = some (p, v)) :
    (holds a p → a.tmps[s]? = some v) ∧ (¬ holds a p → a.tmps[s]? = some undef) := by
  unfold lkg at h
  split at h
  · rename_i x e
    cases h; exact hs.d _ _ _ e
  · split at h
    · rename_i v' e
      cases h; exact ⟨fun _ => hs.s _ _ e, fun hn => absurd (holds_nil a) hn⟩
    · cases h
theorem yielded_some {a : Act} {j s : Nat} {b : Bool} (hj : slotOf ops j = some s) : (yielded ops a.tmps j = some b) ↔ a.tmps[s]? = some (.bool b) := by
  unfold slotOf at hj
  unfold yielded
  rw [hj]
  simp only [Option.bind_some]
  cases a.tmps[s]? with
  | none => simp
  | some v => cases v <;> simp
theorem beq_some_bool {x : Option Bool} {b : Bool} : ((x == some b) = true) ↔ x = some b := by cases x <;> simp
theorem runL_g {d : Nat} {op : Op} {ty : TypeId} {pos : String} {aft : Array Edge} {l : List Oper} {v : Value} {j s : Nat} {want c : Bool} {p : Path}
    (hj : slotOf ops j = some s) (hg : lkg σ δ s = some (p, .bool c))
    (hst : Qt P C.b.roundOf ⟨some d, op, ty, pos, aft, some (j, want)⟩ σ δ ((s, want) :: p) M L v) (hd : Nat.blt d n = true) (hn : lkd δ d = none) (hsd : lks σ d = none) (hu : unNamed δ d = true) (hp : unP ((s, want) :: p) d = true)
    (h : RunL P C n ops l k ds σ ((d, (s, want) :: p, v) :: δ) M L) : RunL P C n ops (⟨some d, op, ty, pos, aft, some (j, want)⟩ :: l) k ds σ δ M L := fun a w idx h1 h2 h3 h4 h5 => by
  cases idx with
  | nil => simp at h5
  | cons i r =>
    simp only [List.map_cons, List.cons.injEq] at h5
    have hd' : d < a.tmps.size := by rw [h1]; exact Nat.blt_eq.mp hd
    have hgs := lkg_sound h3 hg
    by_cases hw : a.tmps[s]? = some (.bool want)
    · have hpp : holds a p := by
        apply Classical.byContradiction
        intro hnp
        have := hgs.2 hnp
        rw [hw] at this; simp [undef] at this
      have hcur : holds a ((s, want) :: p) := fun x hx => by
        rcases List.mem_cons.1 hx with rfl | hx
        · exact hw
        · exact hpp x hx
      have hwant : Region.wanted ⟨some d, op, ty, pos, aft, some (j, want)⟩ (yielded ops a.tmps) = true := by
        simp only [Region.wanted]; exact beq_some_bool.2 ((yielded_some hj).2 hw)
      obtain ⟨v', w', ⟨M', L', hp', e1, e2, e3⟩, hs⟩ := (hst a w h3 hcur h4).steps C.b ops i r k C.cs rfl h5.1 hwant
      subst e1 e2 e3
      exact J.steps hs (h _ w' r (by rw [put_size]; exact h1) (by rw [put_defers]; exact h2) (h3.putG hd' hn hsd hu (unP_sound hp) ⟨fun _ => rfl, fun hx => absurd hcur hx⟩) hp' h5.2)
    · have hnw : Region.wanted ⟨some d, op, ty, pos, aft, some (j, want)⟩ (yielded ops a.tmps) = false := by
        cases hx : Region.wanted ⟨some d, op, ty, pos, aft, some (j, want)⟩ (yielded ops a.tmps) with
        | false => rfl
        | true => simp only [Region.wanted] at hx; exact absurd ((yielded_some hj).1 (beq_some_bool.1 hx)) hw
      have hstep := stepR_op_skip (P := P) (b := C.b) (a := a) (k := k) (cs := C.cs) (w := w) (ops := ops) (i := i) (rest := r) (by rw [h5.1]; simpa using hnw)
      rw [h5.1] at hstep
      refine J.step hstep (h _ w r (by rw [put_size]; exact h1) (by rw [put_defers]; exact h2) (h3.putG hd' hn hsd hu (unP_sound hp) ⟨fun hx => absurd (hx (s, want) (by simp)) hw, fun _ => rfl⟩) h4 h5.2)
theorem runL_gT {d : Nat} {op : Op} {ty : TypeId} {pos : String} {aft : Array Edge} {l : List Oper} {K : Value → Mem → HL → Prop} {j s : Nat} {want : Bool}
    (hj : slotOf ops j = some s) (hg : knows σ s want = true)
    (hst : St P C.b.roundOf ⟨some d, op, ty, pos, aft, some (j, want)⟩ σ δ [] M L K) (hd : Nat.blt d n = true) (hn : lkd δ d = none) (hu : unNamed δ d = true)
    (h : ∀ v M' L', K v M' L' → RunL P C n ops l k ds ((d, v) :: σ) δ M' L') : RunL P C n ops (⟨some d, op, ty, pos, aft, some (j, want)⟩ :: l) k ds σ δ M L := fun a w idx h1 h2 h3 h4 h5 => by
  cases idx with
  | nil => simp at h5
  | cons i r =>
    simp only [List.map_cons, List.cons.injEq] at h5
    have hwant : Region.wanted ⟨some d, op, ty, pos, aft, some (j, want)⟩ (yielded ops a.tmps) = true := by
      simp only [Region.wanted]; exact beq_some_bool.2 ((yielded_some hj).2 (knows_sound h3 hg))
    obtain ⟨v, w', ⟨M', L', hp, hK⟩, hs⟩ := (hst a w h3 (holds_nil a) h4).steps C.b ops i r k C.cs rfl h5.1 hwant
    have hd' : d < a.tmps.size := by rw [h1]; exact Nat.blt_eq.mp hd
    exact J.steps hs (h v M' L' hK _ w' r (by rw [put_size]; exact h1) (by rw [put_defers]; exact h2) (h3.put hd' hn hu v) hp h5.2)
end
end Go.Chi
namespace Go.Chi
def memN : List Nat → Nat → Bool
  | [], _ => false
  | x :: l, i => match Nat.beq x i with | true => true | false => memN l i
theorem memN_iff : ∀ {l : List Nat} {i : Nat}, memN l i = true ↔ i ∈ l
  | [], i => by simp [memN]
  | x :: l, i => by
    simp only [memN]
    cases h : Nat.beq x i
    · have hne := Nat.ne_of_beq_eq_false h
      simp only [memN_iff, List.mem_cons]
      exact ⟨fun x => .inr x, fun x => x.resolve_left (fun e => hne e.symm)⟩
    · have := Nat.eq_of_beq_eq_true h
      simp [this]
theorem memN_false {l : List Nat} {i : Nat} (h : memN l i = false) : i ∉ l := fun hm => by rw [memN_iff.2 hm] at h; cases h
def preds (o : Oper) : List Nat := (o.after.toList.filter (Region.binds .any)).map (·.on)
def predsAt (ops : Array Oper) (i : Nat) : List Nat := match ops[i]? with | some o => preds o | none => []
def looks (ops : Array Oper) (i : Nat) : List Nat := match ops[i]? with | some o => o.looksAt ops | none => []
def plainOp : Op → Bool
  | .select _ _ => false
  | .defer _ => false
  | .go _ => false
  | _ => true
def plainAt (ops : Array Oper) (i : Nat) : Bool := match ops[i]? with | some o => plainOp o.op | none => false
def befs (ops : Array Oper) (e : Nat) : List Nat :=
  (List.range e).reverse.foldl (fun acc i => if acc.any (fun j => memN (predsAt ops j) i) then i :: acc else acc) [e]
def slotIs (ops : Array Oper) (q d : Nat) : Bool := match slotOf ops q with | some x => Nat.beq x d | none => false
def freeOf (ops : Array Oper) (d q : Nat) : Bool := !memN (looks ops q) d && !slotIs ops q d
def dataOk (ops : Array Oper) (i q : Nat) : Bool := match slotOf ops q with | some d => !memN (looks ops i) d || memN (predsAt ops i) q | none => true
def chkQ (ops : Array Oper) (D : List Nat) (i : Nat) : Bool :=
  match slotOf ops i with
  | none => false
  | some d => plainAt ops i && !memN D i && (predsAt ops i).all (memN D) && !memN (looks ops i) d && D.all (fun q => freeOf ops d q && dataOk ops i q)
def chkE (ops : Array Oper) (D : List Nat) (e : Nat) : Bool :=
  Nat.blt e ops.size && plainAt ops e && !memN D e && (predsAt ops e).all (memN D) &&
  (List.range ops.size).all (fun i => memN D i || Nat.beq i e || !(predsAt ops i).all (memN D)) &&
  (let bs := befs ops e
   D.all (fun q => memN bs q || (dataOk ops e q && !(match slotOf ops q with | some d => memN (looks ops e) d | none => false) && (match slotOf ops e with | some d => freeOf ops d q | none => true))))
def chkE1 (ops : Array Oper) (D : List Nat) (e : Nat) : Bool :=
  Nat.blt e ops.size && plainAt ops e && !memN D e && (predsAt ops e).all (memN D) &&
  (let bs := befs ops e
   D.all (fun q => memN bs q || (dataOk ops e q && !(match slotOf ops q with | some d => memN (looks ops e) d | none => false) && (match slotOf ops e with | some d => freeOf ops d q | none => true))))
def chkC (ops : Array Oper) (D Es : List Nat) : Bool := (List.range ops.size).all (fun i => memN D i || memN Es i || !(predsAt ops i).all (memN D))
def acyc (ops : Array Oper) : Bool := (List.range ops.size).all fun i => (predsAt ops i).all (fun p => Nat.blt p i)
def Lst (listed : Array Bool) (i : Nat) : Prop := listed.getD i false = true
def Pend (P : Program) (ro : Option Nat) (ops : Array Oper) (q : Nat) (â : Act) (M : Mem) (L : HL) : Prop :=
  ∃ o d, ops[q]? = some o ∧ o.dst = some d ∧ plainOp o.op = true ∧
    (Region.wanted o (yielded ops â.tmps) = true → ∃ v, â.tmps[d]? = some v ∧ ∀ w, Hp M L w → OpWp P ro o â w (fun u w' => u = v ∧ Hp M L w')) ∧
    (Region.wanted o (yielded ops â.tmps) = false → â.tmps[d]? = some undef)
structure PRst (P : Program) (C : Cx) (n : Nat) (ops : Array Oper) (ds : List Deferred) (D X : List Nat) (σ : Env) (δ : Den) (M : Mem) (L : HL) (a â : Act) (w : World) (listed : Array Bool) (fuel : Nat) : Prop where
  hsz : listed.size = ops.size
  cnt : ((List.range ops.size).filter (fun i => !listed.getD i true)).length ≤ fuel
  an : a.tmps.size = n
  hn : â.tmps.size = n
  ad : a.defers = ds
  hd : â.defers = ds
  sees : Sees σ δ â
  hp : Hp M L w
  down : ∀ i, Lst listed i → ∀ p ∈ predsAt ops i, Lst listed p
  sub : ∀ i, Lst listed i → i ∈ D
  ex : ∀ i ∈ X, Lst listed i
  pend : ∀ q ∈ D, ¬ Lst listed q → Pend P C.b.roundOf ops q â M L
  agree : ∀ t, (∀ q ∈ D, ¬ Lst listed q → slotOf ops q ≠ some t) → a.tmps[t]? = â.tmps[t]?
  wf : ∀ i ∈ D, ¬ Lst listed i → ∀ q ∈ D, ¬ Lst listed q → ∀ d, slotOf ops q = some d → d ∈ looks ops i → q ∈ predsAt ops i
  uniq : ∀ i ∈ D, ¬ Lst listed i → ∀ q ∈ D, ¬ Lst listed q → i ≠ q → slotOf ops i ≠ slotOf ops q
def PR (P : Program) (C : Cx) (n : Nat) (ops : Array Oper) (k : List Item) (ds : List Deferred) (D X : List Nat) (σ : Env) (δ : Den) (M : Mem) (L : HL) : Prop :=
  ∀ a â w listed fuel t, PRst P C n ops ds D X σ δ M L a â w listed fuel → J P C.cs C.Φ (C.b.atR a (.inRegion ops (Region.linearise.go .any ops fuel t listed []) :: k)) w
section
variable {P : Program} {C : Cx} {n : Nat} {k : List Item} {ds : List Deferred} {σ : Env} {δ : Den} {M : Mem} {L : HL} {ops : Array Oper} {D X : List Nat}
theorem lst_set {listed : Array Bool} {i j : Nat} (hi : i < listed.size) : Lst (listed.setIfInBounds i true) j ↔ (j = i ∨ Lst listed j) := by
  unfold Lst
  simp only [Array.getD_eq_getD_getElem?]
  by_cases e : i = j
  · subst e; simp [hi]
  · rw [Array.getElem?_setIfInBounds_ne e]
    exact ⟨.inr, fun h => h.resolve_left (fun x => e x.symm)⟩
theorem not_lst {listed : Array Bool} {i : Nat} (hi : i < listed.size) : listed.getD i true = false ↔ ¬ Lst listed i := by
  unfold Lst
  simp only [Array.getD_eq_getD_getElem?]
  rw [Array.getElem?_eq_getElem hi]
  simp
theorem ready_iff {listed : Array Bool} (hsz : listed.size = ops.size) {i : Nat} : i ∈ Region.ready .any ops listed ↔ i < ops.size ∧ ¬ Lst listed i ∧ ∀ p ∈ predsAt ops i, Lst listed p := by
  unfold Region.ready
  simp only [List.mem_filter, List.mem_range, Bool.and_eq_true, Bool.not_eq_true']
  constructor
  · rintro ⟨h1, h2, h3⟩
    refine ⟨h1, (not_lst (by omega)).1 h2, fun p hp => ?_⟩
    unfold predsAt at hp
    rw [Array.getElem?_eq_getElem h1] at h3 hp
    simp only [Option.map_some, Option.getD_some, preds] at h3 hp
    obtain ⟨e, he, rfl⟩ := List.mem_map.1 hp
    obtain ⟨he1, he2⟩ := List.mem_filter.1 he
    have := (Array.all_eq_true'.1 h3) e (by simpa using he1)
    simp only [he2, Bool.not_true, Bool.false_or] at this
    exact this
  · rintro ⟨h1, h2, h3⟩
    refine ⟨h1, (not_lst (by omega)).2 h2, ?_⟩
    unfold predsAt at h3
    rw [Array.getElem?_eq_getElem h1] at h3 ⊢
    simp only [Option.map_some, Option.getD_some, preds] at h3 ⊢
    refine Array.all_eq_true'.2 fun e he => ?_
    cases hb : Region.binds .any e with
    | false => rfl
    | true => simp only [Bool.not_true, Bool.false_or]; exact h3 _ (List.mem_map.2 ⟨e, List.mem_filter.2 ⟨by simpa using he, hb⟩, rfl⟩)
theorem all_lst (hac : acyc ops = true) {listed : Array Bool} (hsz : listed.size = ops.size) (hr : Region.ready .any ops listed = []) : ∀ i, i < ops.size → Lst listed i := by
  intro i
  induction i using Nat.strongRecOn with
  | _ i ih =>
    intro hi
    apply Classical.byContradiction
    intro hn
    have : i ∈ Region.ready .any ops listed := by
      rw [ready_iff hsz]
      refine ⟨hi, hn, fun p hp => ?_⟩
      have h1 := List.all_eq_true.1 hac i (List.mem_range.2 hi)
      have h2 := Nat.blt_eq.mp (List.all_eq_true.1 h1 p hp)
      exact ih p h2 (by omega)
    rw [hr] at this; cases this
theorem cnt_set {listed : Array Bool} {fuel i : Nat} (hsz : listed.size = ops.size) (hi : i < ops.size) (hn : ¬ Lst listed i)
    (h : ((List.range ops.size).filter (fun i => !listed.getD i true)).length ≤ fuel + 1) :
    ((List.range ops.size).filter (fun j => !(listed.setIfInBounds i true).getD j true)).length ≤ fuel := by
  have hlt : ((List.range ops.size).filter (fun j => !(listed.setIfInBounds i true).getD j true)).length < ((List.range ops.size).filter (fun i => !listed.getD i true)).length := by
    have hsub : (List.range ops.size).filter (fun j => !(listed.setIfInBounds i true).getD j true) = ((List.range ops.size).filter (fun j => !listed.getD j true)).filter (fun j => decide (j ≠ i)) := by
      rw [List.filter_filter]
      apply List.filter_congr
      intro j hj
      have hj' : j < ops.size := List.mem_range.1 hj
      have a1 := not_lst (listed := listed) (i := j) (by omega)
      have a2 := not_lst (listed := listed.setIfInBounds i true) (i := j) (by simp; omega)
      rw [lst_set (by omega)] at a2
      by_cases e : j = i
      · subst e
        simp only [ne_eq, not_true_eq_false, decide_false, Bool.false_and]
        have : (listed.setIfInBounds j true).getD j true = true := by
          cases hx : (listed.setIfInBounds j true).getD j true with
          | true => rfl
          | false => exact absurd (.inl rfl) (a2.1 hx)
        simp [this]
      · simp only [ne_eq, e, not_false_eq_true, decide_true, Bool.true_and]
        congr 1
        cases hx : listed.getD j true with
        | true =>
          cases hy : (listed.setIfInBounds i true).getD j true with
          | true => rfl
          | false =>
            have := a2.1 hy
            have h3 : ¬ Lst listed j := fun x => this (.inr x)
            rw [a1.2 h3] at hx; cases hx
        | false =>
          have h3 := a1.1 hx
          exact a2.2 (fun x => x.elim e h3)
    rw [hsub]
    have hm : i ∈ (List.range ops.size).filter (fun j => !listed.getD j true) := List.mem_filter.2 ⟨List.mem_range.2 hi, by rw [(not_lst (by omega)).2 hn]; rfl⟩
    refine Nat.lt_of_le_of_ne (List.length_filter_le _ _) (fun e => ?_)
    have := List.length_filter_eq_length_iff.1 e i hm
    simp at this
  omega
theorem eval_agree {o : Oper} {a a' : Act} (h : ∀ t ∈ o.looksAt ops, a.tmps[t]? = a'.tmps[t]?) : ∀ x ∈ o.op.operands, a.eval x = a'.eval x := by
  intro x hx
  cases x with
  | tmp t =>
    have ht : t ∈ o.looksAt ops := List.mem_append_left _ (List.mem_filterMap.2 ⟨.tmp t, by simpa using hx, rfl⟩)
    simp only [Act.eval, Array.getD_eq_getD_getElem?, h t ht]
  | const v => rfl
  | global g => rfl
  | func f => rfl
theorem sem_agree {ro : Option Nat} {o : Oper} (hp : plainOp o.op = true) {a a' : Act} (h : ∀ t ∈ o.looksAt ops, a.tmps[t]? = a'.tmps[t]?) : o.semAt ro a.eval = o.semAt ro a'.eval := by
  have h1 : ∀ c, o.op ≠ .defer c := fun c e => by rw [e] at hp; cases hp
  have h2 : ∀ cs b, o.op ≠ .select cs b := fun cs b e => by rw [e] at hp; cases hp
  rw [Oper.semAt_eq _ _ _ h1, Oper.semAt_eq _ _ _ h1]
  exact execOp_congr o h2 (eval_agree h)
theorem wanted_agree {o : Oper} {a a' : Act} (h : ∀ t ∈ o.looksAt ops, a.tmps[t]? = a'.tmps[t]?) : Region.wanted o (yielded ops a.tmps) = Region.wanted o (yielded ops a'.tmps) := by
  unfold Region.wanted
  cases hg : o.guard with
  | none => rfl
  | some gw =>
    obtain ⟨g, want⟩ := gw
    have : yielded ops a.tmps g = yielded ops a'.tmps g := by
      unfold yielded
      cases ht : (ops[g]?).bind (·.dst) with
      | none => rfl
      | some t =>
        have : t ∈ o.looksAt ops := List.mem_append_right _ (by simp [hg, ht])
        simp only [Option.bind_some, h t this]
    simp only [this]
theorem Pend.congr {ro : Option Nat} {q : Nat} {â â' : Act} {d : Nat} (hd : slotOf ops q = some d) (h : ∀ t ∈ looks ops q, â.tmps[t]? = â'.tmps[t]?) (h' : â.tmps[d]? = â'.tmps[d]?) (hp : Pend P ro ops q â M L) : Pend P ro ops q â' M L := by
  obtain ⟨o, d', ho, hdst, hpl, h1, h2⟩ := hp
  have : d' = d := by unfold slotOf at hd; rw [ho] at hd; simp only [Option.bind_some] at hd; rw [hdst] at hd; injection hd
  subst this
  have hl : ∀ t ∈ o.looksAt ops, â.tmps[t]? = â'.tmps[t]? := fun t ht => h t (by unfold looks; rw [ho]; exact ht)
  rw [wanted_agree hl] at h1 h2
  refine ⟨o, d', ho, hdst, hpl, fun hw => ?_, fun hw => by rw [← h']; exact h2 hw⟩
  obtain ⟨v, hv, hq⟩ := h1 hw
  refine ⟨v, by rw [← h']; exact hv, fun w hw' => ?_⟩
  have := hq w hw'
  unfold OpWp at this ⊢
  rw [← sem_agree hpl hl]; exact this
theorem put_get {a : Act} {d : Nat} (hd : d < a.tmps.size) (v : Value) (t : Nat) : (a.put (some d) v).tmps[t]? = if t = d then some v else a.tmps[t]? := by
  show (a.tmps.setIfInBounds d v)[t]? = _
  by_cases e : t = d
  · subst e; simp [hd]
  · rw [if_neg e, Array.getElem?_setIfInBounds_ne (fun x => e x.symm)]
theorem slot_of {q : Nat} {o : Oper} (ho : ops[q]? = some o) : slotOf ops q = o.dst := by unfold slotOf; rw [ho]; rfl
theorem PRst.exec {a â : Act} {w : World} {listed : Array Bool} {fuel : Nat} (h : PRst P C n ops ds D X σ δ M L a â w listed (fuel + 1)) {i : Nat} (hr : i ∈ Region.ready .any ops listed) (hi : i ∈ D) (rest : List Nat) :
    ∃ a' w', Steps P (lone (C.b.atR a (.inRegion ops (i :: rest) :: k)) C.cs w) (lone (C.b.atR a' (.inRegion ops rest :: k)) C.cs w') ∧ PRst P C n ops ds D X σ δ M L a' â w' (listed.setIfInBounds i true) fuel := by
  obtain ⟨hlt, hnl, hpr⟩ := (ready_iff h.hsz).1 hr
  have hlt' : i < listed.size := by rw [h.hsz]; exact hlt
  obtain ⟨o, d, ho, hdst, hpl, h1, h2⟩ := h.pend i hi hnl
  have hsl : slotOf ops i = some d := by rw [slot_of ho]; exact hdst
  have hag : ∀ t ∈ o.looksAt ops, a.tmps[t]? = â.tmps[t]? := fun t ht => by
    refine h.agree t fun q hq hqn hqs => ?_
    have := h.wf i hi hnl q hq hqn t hqs (by unfold looks; rw [ho]; exact ht)
    exact hqn (hpr q this)
  -- what is left after the step, whatever value u was put
  have fin : ∀ u w', â.tmps[d]? = some u → Hp M L w' → PRst P C n ops ds D X σ δ M L (a.put (some d) u) â w' (listed.setIfInBounds i true) fuel := fun u w' hu hp' => by
    have hd' : d < a.tmps.size := by
      rw [h.an, ← h.hn]; exact (Array.getElem?_eq_some_iff.1 hu).1
    have hq : ∀ q, ¬ Lst (listed.setIfInBounds i true) q → q ≠ i ∧ ¬ Lst listed q := fun q hq => ⟨fun e => hq ((lst_set hlt').2 (.inl e)), fun e => hq ((lst_set hlt').2 (.inr e))⟩
    exact {
      hsz := by simpa using h.hsz
      cnt := cnt_set h.hsz hlt hnl h.cnt
      an := by rw [put_size]; exact h.an
      hn := h.hn
      ad := by rw [put_defers]; exact h.ad
      hd := h.hd
      sees := h.sees
      hp := hp'
      down := fun j hj p hp => by
        rw [lst_set hlt'] at hj ⊢
        rcases hj with rfl | hj
        · exact .inr (hpr p hp)
        · exact .inr (h.down j hj p hp)
      sub := fun j hj => by
        rw [lst_set hlt'] at hj
        rcases hj with rfl | hj
        · exact hi
        · exact h.sub j hj
      ex := fun j hj => (lst_set hlt').2 (.inr (h.ex j hj))
      pend := fun q hqD hqn => h.pend q hqD (hq q hqn).2
      agree := fun t ht => by
        rw [put_get hd']
        by_cases e : t = d
        · rw [if_pos e, e]; exact hu.symm
        · rw [if_neg e]
          refine h.agree t fun q hqD hqn hqs => ?_
          by_cases hqi : q = i
          · subst hqi; rw [hsl] at hqs; injection hqs with hqs; exact e hqs.symm
          · exact ht q hqD (fun x => by rw [lst_set hlt'] at x; exact x.elim hqi hqn) hqs
      wf := fun j hj hjn q hqD hqn => h.wf j hj (hq j hjn).2 q hqD (hq q hqn).2
      uniq := fun j hj hjn q hqD hqn => h.uniq j hj (hq j hjn).2 q hqD (hq q hqn).2 }
  cases hw : Region.wanted o (yielded ops a.tmps) with
  | true =>
    rw [wanted_agree hag] at hw
    obtain ⟨v, hv, hq⟩ := h1 hw
    have hop : OpWp P C.b.roundOf o a w (fun u w' => u = v ∧ Hp M L w') := by
      have := hq w h.hp
      unfold OpWp at this ⊢
      rw [sem_agree hpl hag]; exact this
    obtain ⟨u, w', ⟨hu, hp'⟩, hs⟩ := hop.steps C.b ops i rest k C.cs rfl ho (by rw [wanted_agree hag]; exact hw)
    subst hu
    rw [hdst] at hs
    exact ⟨_, w', hs, fin u w' hv hp'⟩
  | false =>
    have hstep := stepR_op_skip (P := P) (b := C.b) (a := a) (k := k) (cs := C.cs) (w := w) (ops := ops) (i := i) (rest := rest) (by rw [ho]; simpa using hw)
    rw [ho] at hstep
    simp only [Option.bind_some, hdst] at hstep
    rw [wanted_agree hag] at hw
    exact ⟨_, w, .one hstep, fin undef w (h2 hw) h.hp⟩
theorem go_step {fuel t : Nat} {listed : Array Bool} : Region.linearise.go .any ops (fuel + 1) t listed [] =
    match (Region.ready .any ops listed)[t % (Region.ready .any ops listed).length]? with
      | some i => i :: Region.linearise.go .any ops fuel (t / (Region.ready .any ops listed).length) (listed.setIfInBounds i true) []
      | none => [] := by
  simp only [Region.linearise.go]
  change (match (Region.ready .any ops listed)[t % (Region.ready .any ops listed).length]? with
      | some i => Region.linearise.go .any ops fuel (t / (Region.ready .any ops listed).length) (listed.setIfInBounds i true) [i]
      | none => [].reverse) = _
  cases (Region.ready .any ops listed)[t % (Region.ready .any ops listed).length]? with
  | none => rfl
  | some i => simp only []; rw [linearise_go_acc]; rfl
theorem pump (hac : acyc ops = true)
    (hE : ∀ a â w listed fuel t i, PRst P C n ops ds D X σ δ M L a â w listed (fuel + 1) → i ∈ Region.ready .any ops listed → i ∉ D → J P C.cs C.Φ (C.b.atR a (.inRegion ops (i :: Region.linearise.go .any ops fuel t (listed.setIfInBounds i true) []) :: k)) w)
    (hEnd : ∀ a w, a.tmps.size = n → a.defers = ds → Sees σ δ a → Hp M L w → (∀ i, i < ops.size → i ∈ D) → J P C.cs C.Φ (C.b.atR a (.inRegion ops [] :: k)) w) :
    PR P C n ops k ds D X σ δ M L := by
  have done : ∀ a â w listed fuel, PRst P C n ops ds D X σ δ M L a â w listed fuel → Region.ready .any ops listed = [] → J P C.cs C.Φ (C.b.atR a (.inRegion ops [] :: k)) w := fun a â w listed fuel h hr => by
    have hall := all_lst hac h.hsz hr
    have hag : ∀ t, a.tmps[t]? = â.tmps[t]? := fun t => h.agree t fun q hq hqn hqs => by
      by_cases hlt : q < ops.size
      · exact hqn (hall q hlt)
      · unfold slotOf at hqs; rw [Array.getElem?_eq_none (by omega)] at hqs; cases hqs
    have heq : a = â := by
      have h1 : a.tmps = â.tmps := Array.ext_getElem? (fun t => hag t)
      have h2 : a.defers = â.defers := h.ad.trans h.hd.symm
      cases a; cases â; simp_all
    exact hEnd a w h.an h.ad (heq ▸ h.sees) h.hp fun i hi => h.sub i (hall i hi)
  intro a â w listed fuel
  induction fuel generalizing a w listed with
  | zero =>
    intro t h
    have hr : Region.ready .any ops listed = [] := by
      cases hx : Region.ready .any ops listed with
      | nil => rfl
      | cons i l =>
        obtain ⟨h1, h2, _⟩ := (ready_iff h.hsz).1 (by rw [hx]; exact List.mem_cons_self)
        have hm : i ∈ (List.range ops.size).filter (fun i => !listed.getD i true) := List.mem_filter.2 ⟨List.mem_range.2 h1, by rw [(not_lst (by rw [h.hsz]; exact h1)).2 h2]; rfl⟩
        have := List.length_pos_of_mem hm
        have := h.cnt
        omega
    exact done a â w listed 0 h hr
  | succ fuel ih =>
    intro t h
    rw [go_step]
    cases hx : (Region.ready .any ops listed)[t % (Region.ready .any ops listed).length]? with
    | none =>
      refine done a â w listed _ h ?_
      cases hr : Region.ready .any ops listed with
      | nil => rfl
      | cons x xs =>
        rw [hr] at hx
        have hlt : t % (x :: xs).length < (x :: xs).length := Nat.mod_lt _ (by simp)
        rw [List.getElem?_eq_getElem hlt] at hx; cases hx
    | some i =>
      have hr := List.mem_of_getElem? hx
      simp only []
      by_cases hi : i ∈ D
      · obtain ⟨a', w', hs, h'⟩ := h.exec (k := k) hr hi (Region.linearise.go .any ops fuel (t / (Region.ready .any ops listed).length) (listed.setIfInBounds i true) [])
        exact J.steps hs (ih a' w' _ _ h')
      · exact hE a â w listed fuel _ i h hr hi
theorem pr_end (hac : acyc ops = true) (hall : (List.range ops.size).all (memN D) = true) (h : Run P C n k ds σ M L) : PR P C n ops k ds D X σ δ M L :=
  pump hac (fun _ _ _ _ _ _ i hst hr hi => by
      obtain ⟨hlt, _, _⟩ := (ready_iff hst.hsz).1 hr
      exact absurd (memN_iff.1 (List.all_eq_true.1 hall i (List.mem_range.2 hlt))) hi)
    (fun a w h1 h2 h3 h4 _ => J.step stepR_region_end (h a w h1 h2 h3.nil h4))
theorem freeOf_spec {d q : Nat} (h : freeOf ops d q = true) : d ∉ looks ops q ∧ slotOf ops q ≠ some d := by
  simp only [freeOf, Bool.and_eq_true, Bool.not_eq_true'] at h
  refine ⟨memN_false h.1, fun e => ?_⟩
  have := h.2
  unfold slotIs at this; rw [e] at this; simp at this
theorem dataOk_spec {i q d : Nat} (h : dataOk ops i q = true) (hs : slotOf ops q = some d) (hd : d ∈ looks ops i) : q ∈ predsAt ops i := by
  unfold dataOk at h
  rw [hs] at h
  simp only [Bool.or_eq_true, Bool.not_eq_true'] at h
  rcases h with h | h
  · exact absurd hd (memN_false h)
  · exact memN_iff.1 h
theorem PRst.add {a â : Act} {w : World} {listed : Array Bool} {fuel : Nat} (h : PRst P C n ops ds D X σ δ M L a â w listed fuel) {i d : Nat} (hchk : chkQ ops D i = true) (hsl : slotOf ops i = some d) (hd : d < n) {u : Value} {σ' : Env} {δ' : Den}
    (hs : Sees σ' δ' (â.put (some d) u)) (hq : Pend P C.b.roundOf ops i (â.put (some d) u) M L) : PRst P C n ops ds (i :: D) X σ' δ' M L a (â.put (some d) u) w listed fuel := by
  unfold chkQ at hchk
  rw [hsl] at hchk
  simp only [Bool.and_eq_true, Bool.not_eq_true'] at hchk
  obtain ⟨⟨⟨⟨_, hni⟩, _⟩, hself⟩, hD⟩ := hchk
  have hni' := memN_false hni
  have hdn : d < â.tmps.size := by rw [h.hn]; exact hd
  have hfree : ∀ q ∈ D, d ∉ looks ops q ∧ slotOf ops q ≠ some d := fun q hq => by
    have := List.all_eq_true.1 hD q hq
    simp only [Bool.and_eq_true] at this
    exact freeOf_spec this.1
  have hdata : ∀ q ∈ D, ∀ e, slotOf ops q = some e → e ∈ looks ops i → q ∈ predsAt ops i := fun q hq e h1 h2 => by
    have := List.all_eq_true.1 hD q hq
    simp only [Bool.and_eq_true] at this
    exact dataOk_spec this.2 h1 h2
  have hil : ¬ Lst listed i := fun x => hni' (h.sub i x)
  exact {
    hsz := h.hsz
    cnt := h.cnt
    an := h.an
    hn := by rw [put_size]; exact h.hn
    ad := h.ad
    hd := by rw [put_defers]; exact h.hd
    sees := hs
    hp := h.hp
    down := h.down
    sub := fun j hj => List.mem_cons_of_mem _ (h.sub j hj)
    ex := h.ex
    pend := fun q hqD hqn => by
      rcases List.mem_cons.1 hqD with rfl | hqD
      · exact hq
      · have hp := h.pend q hqD hqn
        obtain ⟨o, e, ho, hdst, _⟩ := hp
        have hse : slotOf ops q = some e := by rw [slot_of ho]; exact hdst
        refine Pend.congr (d := e) hse (fun t ht => ?_) ?_ (h.pend q hqD hqn)
        · rw [put_get hdn, if_neg]; exact fun x => (hfree q hqD).1 (x ▸ ht)
        · rw [put_get hdn, if_neg]; exact fun x => (hfree q hqD).2 (x ▸ hse)
    agree := fun t ht => by
      have hne : t ≠ d := fun x => ht i (by simp) hil (by rw [hsl, x])
      rw [put_get hdn, if_neg hne]
      exact h.agree t fun q hqD hqn => ht q (List.mem_cons_of_mem _ hqD) hqn
    wf := fun j hj hjn q hqD hqn e hse he => by
      rcases List.mem_cons.1 hj with rfl | hj' <;> rcases List.mem_cons.1 hqD with rfl | hqD'
      · rw [hsl] at hse; injection hse with hse; subst hse; exact absurd he (memN_false hself)
      · exact hdata q hqD' e hse he
      · rw [hsl] at hse; injection hse with hse; subst hse; exact absurd he (hfree j hj').1
      · exact h.wf j hj' hjn q hqD' hqn e hse he
    uniq := fun j hj hjn q hqD hqn hne => by
      rcases List.mem_cons.1 hj with rfl | hj' <;> rcases List.mem_cons.1 hqD with rfl | hqD'
      · exact absurd rfl hne
      · rw [hsl]; exact fun x => (hfree q hqD').2 x.symm
      · rw [hsl]; exact (hfree j hj').2
      · exact h.uniq j hj' hjn q hqD' hqn hne }
theorem self_agree {a : Act} {d i : Nat} (hd : d < a.tmps.size) (hs : d ∉ looks ops i) (u : Value) : ∀ t ∈ looks ops i, (a.put (some d) u).tmps[t]? = a.tmps[t]? := fun t ht => by
  rw [put_get hd, if_neg]; exact fun x => hs (x ▸ ht)
theorem chkQ_parts {i d : Nat} (h : chkQ ops D i = true) (hsl : slotOf ops i = some d) : plainAt ops i = true ∧ d ∉ looks ops i := by
  unfold chkQ at h
  rw [hsl] at h
  simp only [Bool.and_eq_true, Bool.not_eq_true'] at h
  exact ⟨h.1.1.1.1, memN_false h.1.2⟩
theorem pr_q (i : Nat) {d : Nat} {op : Op} {ty : TypeId} {pos : String} {aft : Array Edge} {v : Value} (hchk : chkQ ops D i = true) (ho : ops[i]? = some ⟨some d, op, ty, pos, aft, none⟩)
    (hq : Qt P C.b.roundOf ⟨some d, op, ty, pos, aft, none⟩ σ δ [] M L v) (hd : Nat.blt d n = true) (hn : lkd δ d = none) (hu : unNamed δ d = true)
    (h : PR P C n ops k ds (i :: D) X ((d, v) :: σ) δ M L) : PR P C n ops k ds D X σ δ M L := fun a â w listed fuel t hst => by
  have hsl : slotOf ops i = some d := by rw [slot_of ho]
  have hd' := Nat.blt_eq.mp hd
  have hdn : d < â.tmps.size := by rw [hst.hn]; exact hd'
  obtain ⟨hpl, hself⟩ := chkQ_parts hchk hsl
  have hlk : looks ops i = Oper.looksAt ops ⟨some d, op, ty, pos, aft, none⟩ := by unfold looks; rw [ho]
  refine h a (â.put (some d) v) w listed fuel t (hst.add hchk hsl hd' (hst.sees.put hdn hn hu v) ?_)
  refine ⟨_, d, ho, rfl, by unfold plainAt at hpl; rw [ho] at hpl; exact hpl, fun _ => ⟨v, by rw [put_get hdn, if_pos rfl], fun w' hw' => ?_⟩, fun hw => by simp [Region.wanted] at hw⟩
  have := hq â w' hst.sees (holds_nil _) hw'
  have := this.mono (K' := fun u w' => u = v ∧ Hp M L w') fun u w'' ⟨M', L', h1, h2, h3, h4⟩ => ⟨h2, by subst h3 h4; exact h1⟩
  unfold OpWp at this ⊢
  rw [sem_agree (ops := ops) (a := â.put (some d) v) (a' := â) (by unfold plainAt at hpl; rw [ho] at hpl; exact hpl) (by rw [← hlk]; exact self_agree hdn hself v)]
  exact this
theorem pr_gW (i : Nat) {u : Value} {d : Nat} {op : Op} {ty : TypeId} {pos : String} {aft : Array Edge} {j s : Nat} {want : Bool} (hchk : chkQ ops D i = true) (ho : ops[i]? = some ⟨some d, op, ty, pos, aft, some (j, want)⟩)
    (hj : slotOf ops j = some s) (hg : lks σ s = some u) (hne : u ≠ .bool want) (hd : Nat.blt d n = true) (hn : lkd δ d = none) (hu : unNamed δ d = true)
    (h : PR P C n ops k ds (i :: D) X ((d, undef) :: σ) δ M L) : PR P C n ops k ds D X σ δ M L := fun a â w listed fuel t hst => by
  have hsl : slotOf ops i = some d := by rw [slot_of ho]
  have hd' := Nat.blt_eq.mp hd
  have hdn : d < â.tmps.size := by rw [hst.hn]; exact hd'
  obtain ⟨hpl, hself⟩ := chkQ_parts hchk hsl
  have hlk : looks ops i = Oper.looksAt ops ⟨some d, op, ty, pos, aft, some (j, want)⟩ := by unfold looks; rw [ho]
  have hpl' : plainOp op = true := by unfold plainAt at hpl; rw [ho] at hpl; exact hpl
  have hv := hst.sees.s _ _ hg
  have hag := self_agree (ops := ops) (i := i) hdn hself undef
  have hnw : Region.wanted ⟨some d, op, ty, pos, aft, some (j, want)⟩ (yielded ops (â.put (some d) undef).tmps) = false := by
    rw [wanted_agree (ops := ops) (a' := â) (by rw [← hlk]; exact hag)]
    cases hx : Region.wanted ⟨some d, op, ty, pos, aft, some (j, want)⟩ (yielded ops â.tmps) with
    | false => rfl
    | true =>
      simp only [Region.wanted] at hx
      have := (yielded_some hj).1 (beq_some_bool.1 hx)
      rw [hv] at this
      exact absurd (Option.some.inj this) hne
  refine h a (â.put (some d) undef) w listed fuel t (hst.add hchk hsl hd' (hst.sees.put hdn hn hu undef) ?_)
  exact ⟨_, d, ho, rfl, hpl', (fun hx => by rw [hnw] at hx; cases hx), fun _ => by rw [put_get hdn, if_pos rfl]⟩
theorem pr_gF (i : Nat) {d : Nat} {op : Op} {ty : TypeId} {pos : String} {aft : Array Edge} {j s : Nat} {want : Bool} (hchk : chkQ ops D i = true) (ho : ops[i]? = some ⟨some d, op, ty, pos, aft, some (j, want)⟩)
    (hj : slotOf ops j = some s) (hg : knows σ s (!want) = true) (hd : Nat.blt d n = true) (hn : lkd δ d = none) (hu : unNamed δ d = true)
    (h : PR P C n ops k ds (i :: D) X ((d, undef) :: σ) δ M L) : PR P C n ops k ds D X σ δ M L :=
  have ⟨u, h1, h2⟩ : ∃ u, lks σ s = some u ∧ u ≠ .bool want := by
    unfold knows at hg
    split at hg
    · rename_i e1 e2; exact ⟨_, e1, by cases want <;> simp at e2 ⊢⟩
    · rename_i e1 e2; exact ⟨_, e1, by cases want <;> simp at e2 ⊢⟩
    · cases hg
  pr_gW i hchk ho hj h1 h2 hd hn hu h
theorem befs_lst {listed : Array Bool} {e : Nat} (hdown : ∀ i, Lst listed i → ∀ p ∈ predsAt ops i, Lst listed p) (hpr : ∀ p ∈ predsAt ops e, Lst listed p) : ∀ q ∈ befs ops e, q = e ∨ Lst listed q := by
  unfold befs
  suffices ∀ (l acc : List Nat), (∀ q ∈ acc, q = e ∨ Lst listed q) → ∀ q ∈ l.foldl (fun acc i => if acc.any (fun j => memN (predsAt ops j) i) then i :: acc else acc) acc, q = e ∨ Lst listed q from
    this _ [e] (fun q hq => .inl (by simpa using hq))
  intro l
  induction l with
  | nil => exact fun acc h q hq => h q hq
  | cons i l ih =>
    intro acc h
    simp only [List.foldl_cons]
    refine ih _ ?_
    split
    · rename_i hany
      intro q hq
      rcases List.mem_cons.1 hq with rfl | hq
      · obtain ⟨j, hj, hm⟩ := List.any_eq_true.1 hany
        have hm' := memN_iff.1 hm
        rcases h j hj with rfl | hl
        · exact .inr (hpr q hm')
        · exact .inr (hdown j hl q hm')
      · exact h q hq
    · exact h
def open_ (ops : Array Oper) (D X : List Nat) (e : Nat) : List Nat := D.filter (fun q => !memN (befs ops e) q && !memN X q)
def gdOk (ops : Array Oper) (σ : Env) : Option (Nat × Bool) → Bool
  | none => true
  | some (j, want) => match slotOf ops j with | some s => knows σ s want | none => false
def EffOk (P : Program) (C : Cx) (n : Nat) (ops : Array Oper) (k : List Item) (ds : List Deferred) (D X : List Nat) (σ : Env) (δ : Den) (M : Mem) (L : HL) (e : Nat) : Prop :=
  ∃ (dst : Option Nat) (op : Op) (ty : TypeId) (pos : String) (aft : Array Edge) (K : Value → Mem → HL → Prop) (σ' : Value → Env) (gd : Option (Nat × Bool)), gdOk ops σ gd = true ∧ ops[e]? = some ⟨dst, op, ty, pos, aft, gd⟩ ∧
    St P C.b.roundOf ⟨dst, op, ty, pos, aft, gd⟩ σ δ [] M L K ∧
    (∀ a v, a.tmps.size = n → Sees σ δ a → Sees (σ' v) δ (a.put dst v)) ∧
    (∀ v M' L', K v M' L' → ∀ q ∈ open_ ops D X e, ∀ a, Sees σ δ a → Pend P C.b.roundOf ops q a M L → Pend P C.b.roundOf ops q a M' L') ∧
    (∀ v M' L', K v M' L' → PR P C n ops k ds (e :: D) (e :: X) (σ' v) δ M' L')
theorem pr_es (Es : List Nat) (hac : acyc ops = true) (hC : chkC ops D Es = true) (hEs : Es ≠ []) (hall : ∀ e ∈ Es, chkE1 ops D e = true ∧ EffOk P C n ops k ds D X σ δ M L e) : PR P C n ops k ds D X σ δ M L := by
  obtain ⟨e0, he0⟩ : ∃ e, e ∈ Es := by cases Es with | nil => exact absurd rfl hEs | cons e _ => exact ⟨e, List.mem_cons_self⟩
  have h00 := (hall e0 he0).1
  unfold chkE1 at h00
  simp only [Bool.and_eq_true, Bool.not_eq_true'] at h00
  have hlt0 := Nat.blt_eq.mp h00.1.1.1.1
  have hne0 := memN_false h00.1.1.2
  refine pump hac ?_ (fun a w h1 h2 h3 h4 hall => absurd (hall e0 hlt0) hne0)
  intro a â w listed fuel t i hs hr hi
  obtain ⟨hil, hin, hpr⟩ := (ready_iff hs.hsz).1 hr
  have hiE : i ∈ Es := by
    have := List.all_eq_true.1 hC i (List.mem_range.2 hil)
    simp only [Bool.or_eq_true, Bool.not_eq_true'] at this
    rcases this with (h1 | h1) | h1
    · exact absurd (memN_iff.1 h1) hi
    · exact memN_iff.1 h1
    · have : (predsAt ops i).all (memN D) = true := List.all_eq_true.2 fun p hp => memN_iff.2 (hs.sub p (hpr p hp))
      rw [this] at h1; cases h1
  obtain ⟨hchk, dst, op, ty, pos, aft, K, σ', gd, hgd, ho, hst, hsee, hopen, h⟩ := hall i hiE
  unfold chkE1 at hchk
  simp only [Bool.and_eq_true, Bool.not_eq_true'] at hchk
  obtain ⟨⟨⟨⟨hlt, hpl⟩, hne⟩, _⟩, hD⟩ := hchk
  have hne' := memN_false hne
  have hpl' : plainOp op = true := by unfold plainAt at hpl; rw [ho] at hpl; exact hpl
  have hlk : looks ops i = Oper.looksAt ops ⟨dst, op, ty, pos, aft, gd⟩ := by unfold looks; rw [ho]
  have hsl : slotOf ops i = dst := by rw [slot_of ho]
  have hil' : i < listed.size := by rw [hs.hsz]; exact hil
  -- what is open is not before it
  have hbef := befs_lst (listed := listed) (e := i) hs.down hpr
  have hop : ∀ q ∈ D, ¬ Lst listed q → memN (befs ops i) q = false ∧ (∀ d, slotOf ops q = some d → d ∉ looks ops i) ∧ (∀ d, dst = some d → d ∉ looks ops q ∧ slotOf ops q ≠ some d) := fun q hq hqn => by
    have hb : memN (befs ops i) q = false := by
      cases hx : memN (befs ops i) q with
      | false => rfl
      | true =>
        rcases hbef q (memN_iff.1 hx) with rfl | hl
        · exact absurd hq hne'
        · exact absurd hl hqn
    have := List.all_eq_true.1 hD q hq
    simp only [hb, Bool.false_or, Bool.and_eq_true, Bool.not_eq_true'] at this
    refine ⟨hb, fun d hd => ?_, fun d hd => ?_⟩
    · have h2 := this.1.2
      rw [hd] at h2
      exact memN_false h2
    · have h3 := this.2
      rw [hsl, hd] at h3
      exact freeOf_spec h3
  have hag : ∀ t ∈ Oper.looksAt ops ⟨dst, op, ty, pos, aft, gd⟩, a.tmps[t]? = â.tmps[t]? := fun t ht => by
    rw [← hlk] at ht
    exact hs.agree t fun q hq hqn hqs => (hop q hq hqn).2.1 t hqs ht
  have hopw : OpWp P C.b.roundOf ⟨dst, op, ty, pos, aft, gd⟩ a w (fun v w' => ∃ M' L', Hp M' L' w' ∧ K v M' L') := by
    have := hst â w hs.sees (holds_nil _) hs.hp
    unfold OpWp at this ⊢
    rw [sem_agree (ops := ops) hpl' hag]; exact this
  have hwant : Region.wanted ⟨dst, op, ty, pos, aft, gd⟩ (yielded ops a.tmps) = true := by
    rw [wanted_agree (ops := ops) (a' := â) hag]
    cases gd with
    | none => rfl
    | some g =>
      obtain ⟨jj, want⟩ := g
      unfold gdOk at hgd
      cases hj : slotOf ops jj with
      | none => simp only [hj] at hgd; cases hgd
      | some s =>
        simp only [hj] at hgd
        simp only [Region.wanted]
        exact beq_some_bool.2 ((yielded_some hj).2 (knows_sound hs.sees hgd))
  obtain ⟨v, w', ⟨M', L', hp', hK⟩, hsteps⟩ := hopw.steps C.b ops i (Region.linearise.go .any ops fuel t (listed.setIfInBounds i true) []) k C.cs rfl ho hwant
  refine J.steps hsteps (h v M' L' hK (a.put dst v) (â.put dst v) w' _ fuel t ?_)
  have hq' : ∀ q, ¬ Lst (listed.setIfInBounds i true) q → q ≠ i ∧ ¬ Lst listed q := fun q hq => ⟨fun e => hq ((lst_set hil').2 (.inl e)), fun e => hq ((lst_set hil').2 (.inr e))⟩
  have hD' : ∀ q, q ∈ i :: D → ¬ Lst (listed.setIfInBounds i true) q → q ∈ D ∧ ¬ Lst listed q := fun q hq hqn => by
    obtain ⟨h1, h2⟩ := hq' q hqn
    exact ⟨(List.mem_cons.1 hq).resolve_left h1, h2⟩
  have hput : ∀ (x : Act) t, x.tmps.size = n → (∀ d, dst = some d → t ≠ d) → (x.put dst v).tmps[t]? = x.tmps[t]? := fun x t hx ht => by
    cases dst with
    | none => rfl
    | some d =>
      show (x.tmps.setIfInBounds d v)[t]? = _
      rw [Array.getElem?_setIfInBounds_ne (fun e => ht d rfl e.symm)]
  exact {
    hsz := by simpa using hs.hsz
    cnt := cnt_set hs.hsz hil hin hs.cnt
    an := by rw [put_size]; exact hs.an
    hn := by rw [put_size]; exact hs.hn
    ad := by rw [put_defers]; exact hs.ad
    hd := by rw [put_defers]; exact hs.hd
    sees := hsee â v hs.hn hs.sees
    hp := hp'
    down := fun j hj p hp => by
      rw [lst_set hil'] at hj ⊢
      rcases hj with rfl | hj
      · exact .inr (hpr p hp)
      · exact .inr (hs.down j hj p hp)
    sub := fun j hj => by
      rw [lst_set hil'] at hj
      rcases hj with rfl | hj
      · exact List.mem_cons_self
      · exact List.mem_cons_of_mem _ (hs.sub j hj)
    ex := fun j hj => by
      rw [lst_set hil']
      rcases List.mem_cons.1 hj with rfl | hj
      · exact .inl rfl
      · exact .inr (hs.ex j hj)
    pend := fun q hq hqn => by
      obtain ⟨h1, h2⟩ := hD' q hq hqn
      have hp := hopen v M' L' hK q (List.mem_filter.2 ⟨h1, by
        have hx : memN X q = false := by
          cases hx : memN X q with
          | false => rfl
          | true => exact absurd (hs.ex q (memN_iff.1 hx)) h2
        rw [(hop q h1 h2).1, hx]; rfl⟩) â hs.sees (hs.pend q h1 h2)
      obtain ⟨o, d, ho', hdst, _⟩ := hs.pend q h1 h2
      have hse : slotOf ops q = some d := by rw [slot_of ho']; exact hdst
      refine Pend.congr (d := d) hse (fun t ht => ?_) ?_ hp
      · exact (hput â t hs.hn fun d' hd' x => ((hop q h1 h2).2.2 d' hd').1 (x ▸ ht)).symm
      · exact (hput â d hs.hn fun d' hd' x => ((hop q h1 h2).2.2 d' hd').2 (x ▸ hse)).symm
    agree := fun t ht => by
      cases hd : dst with
      | none =>
        exact hs.agree t fun q hq hqn => ht q (List.mem_cons_of_mem _ hq) (fun x => by rw [lst_set hil'] at x; exact x.elim (fun e => by subst e; exact hne' hq) hqn)
      | some d =>
        by_cases e : t = d
        · subst e
          show (a.tmps.setIfInBounds t v)[t]? = (â.tmps.setIfInBounds t v)[t]?
          have e1 := hs.an
          have e2 := hs.hn
          by_cases hb : t < n
          · rw [Array.getElem?_setIfInBounds_self_of_lt (by omega), Array.getElem?_setIfInBounds_self_of_lt (by omega)]
          · rw [Array.getElem?_eq_none (by simp; omega), Array.getElem?_eq_none (by simp; omega)]
        · have h1 := hput a t hs.an (fun d' hd' x => e (by rw [hd] at hd'; injection hd' with hd'; rw [x, hd']))
          have h2 := hput â t hs.hn (fun d' hd' x => e (by rw [hd] at hd'; injection hd' with hd'; rw [x, hd']))
          rw [hd] at h1 h2
          rw [h1, h2]
          exact hs.agree t fun q hq hqn => ht q (List.mem_cons_of_mem _ hq) (fun x => by rw [lst_set hil'] at x; exact x.elim (fun e => by subst e; exact hne' hq) hqn)
    wf := fun j hj hjn q hq hqn => hs.wf j (hD' j hj hjn).1 (hD' j hj hjn).2 q (hD' q hq hqn).1 (hD' q hq hqn).2
    uniq := fun j hj hjn q hq hqn => hs.uniq j (hD' j hj hjn).1 (hD' j hj hjn).2 q (hD' q hq hqn).1 (hD' q hq hqn).2 }
theorem chkE_parts {e : Nat} (h : chkE ops D e = true) : chkE1 ops D e = true ∧ chkC ops D [e] = true := by
  unfold chkE at h
  unfold chkE1 chkC
  simp only [Bool.and_eq_true] at h ⊢
  obtain ⟨⟨⟨⟨⟨h1, h2⟩, h3⟩, h4⟩, h5⟩, h6⟩ := h
  refine ⟨⟨⟨⟨⟨h1, h2⟩, h3⟩, h4⟩, h6⟩, ?_⟩
  refine List.all_eq_true.2 fun i hi => ?_
  have := List.all_eq_true.1 h5 i hi
  simp only [Bool.or_eq_true, Bool.not_eq_true'] at this ⊢
  rcases this with (h | h) | h
  · exact .inl (.inl h)
  · exact .inl (.inr (memN_iff.2 (by rw [Nat.eq_of_beq_eq_true h]; simp)))
  · exact .inr h
theorem pr_e (e : Nat) {dst : Option Nat} {op : Op} {ty : TypeId} {pos : String} {aft : Array Edge} {K : Value → Mem → HL → Prop} {σ' : Value → Env} (hchk : chkE ops D e = true) (hac : acyc ops = true) (ho : ops[e]? = some ⟨dst, op, ty, pos, aft, none⟩)
    (hst : St P C.b.roundOf ⟨dst, op, ty, pos, aft, none⟩ σ δ [] M L K)
    (hsee : ∀ a v, a.tmps.size = n → Sees σ δ a → Sees (σ' v) δ (a.put dst v))
    (hopen : ∀ v M' L', K v M' L' → ∀ q ∈ open_ ops D X e, ∀ a, Sees σ δ a → Pend P C.b.roundOf ops q a M L → Pend P C.b.roundOf ops q a M' L')
    (h : ∀ v M' L', K v M' L' → PR P C n ops k ds (e :: D) (e :: X) (σ' v) δ M' L') : PR P C n ops k ds D X σ δ M L := by
  obtain ⟨h1, h2⟩ := chkE_parts hchk
  refine pr_es [e] hac h2 (by simp) fun x hx => ?_
  obtain rfl : x = e := by simpa using hx
  exact ⟨h1, dst, op, ty, pos, aft, K, σ', none, rfl, ho, hst, hsee, hopen, h⟩
def PendAll (P : Program) (ro : Option Nat) (ops : Array Oper) (σ : Env) (δ : Den) (M : Mem) (L : HL) : List Nat → Prop
  | [] => True
  | q :: qs => (∀ a, Sees σ δ a → Pend P ro ops q a M L) ∧ PendAll P ro ops σ δ M L qs
theorem PendAll.mem {ro : Option Nat} : ∀ {qs : List Nat}, PendAll P ro ops σ δ M L qs → ∀ q ∈ qs, ∀ a, Sees σ δ a → Pend P ro ops q a M L
  | [], _, q, hq => by cases hq
  | q' :: qs, h, q, hq => by
    rcases List.mem_cons.1 hq with rfl | hq
    · exact h.1
    · exact PendAll.mem h.2 q hq
theorem pend_q {ro : Option Nat} {q d : Nat} {op : Op} {ty : TypeId} {pos : String} {aft : Array Edge} {v : Value} (ho : ops[q]? = some ⟨some d, op, ty, pos, aft, none⟩) (hpl : plainOp op = true) (hv : lks σ d = some v) (hq : Qt P ro ⟨some d, op, ty, pos, aft, none⟩ σ δ [] M L v) : ∀ a, Sees σ δ a → Pend P ro ops q a M L :=
  fun a hs => ⟨_, d, ho, rfl, hpl, fun _ => ⟨v, hs.s _ _ hv, fun w hw => (hq a w hs (holds_nil a) hw).mono fun u w' ⟨M', L', h1, h2, h3, h4⟩ => ⟨h2, by subst h3 h4; exact h1⟩⟩, fun hw => by simp [Region.wanted] at hw⟩
theorem run_draw {id : Nat} (hm : P.follows .mixedOrders = true) (h : PR P C n ops k ds [] [] σ [] M L) : Run P C n (.code (.region id ops true) :: k) ds σ M L :=
  fun a w h1 h2 h3 h4 => by
    refine J.step stepR_region_draw ?_
    rw [show Region.schedule (P.follows .mixedOrders) ops (w.tape w.drawn (.order C.b.fn id)) = Region.linearise.go .any ops ops.size (w.tape w.drawn (.order C.b.fn id)) (Array.replicate ops.size false) [] from by
      simp [Region.schedule, hm, Region.linearise]]
    have hl : ∀ i, ¬ Lst (Array.replicate ops.size false) i := fun i h => by
      unfold Lst at h
      simp only [Array.getD_eq_getD_getElem?] at h
      by_cases hi : i < ops.size
      · rw [Array.getElem?_replicate, if_pos hi] at h; cases h
      · rw [Array.getElem?_replicate, if_neg hi] at h; cases h
    exact h a a _ _ _ _ {
      hsz := by simp
      cnt := Nat.le_trans (List.length_filter_le _ _) (by simp)
      an := h1
      hn := h1
      ad := h2
      hd := h2
      sees := h3
      hp := h4.drawn _
      down := fun i hi => absurd hi (hl i)
      sub := fun i hi => absurd hi (hl i)
      ex := fun i hi => by cases hi
      pend := fun q hq => by cases hq
      agree := fun _ _ => rfl
      wf := fun i hi => by cases hi
      uniq := fun i hi => by cases hi }
end
end Go.Chi
namespace Go.Chi
abbrev TT := List (Nat × TypeInfo)
def tlk : TT → Nat → Option TypeInfo
  | [], _ => none
  | (t, i) :: T, k => match Nat.beq t k with | true => some i | false => tlk T k
def und (T : TT) (t : Nat) : Option TypeDesc :=
  match tlk T t with
  | some i => match i.desc with
    | .named _ u => match tlk T u with | some j => some j.desc | none => none
    | d => some d
  | none => none
def aggD : TypeDesc → Bool
  | .struct _ => true
  | .array _ _ => true
  | _ => false
def sizeT (T : TT) (t : Nat) : Option Nat := match tlk T t with | some ⟨_, _, s, _, _, _, _, _, _, _⟩ => some s | none => none
theorem sizeT_ok {T : TT} {t s : Nat} (h : sizeT T t = some s) : ∃ i, tlk T t = some i ∧ i.size = s := by
  unfold sizeT at h
  split at h
  · rename_i a b s' c d e f g i j hi; cases h; exact ⟨_, hi, rfl⟩
  · cases h
def zeroT (T : TT) (t : Nat) : Option Value := match tlk T t with | some ⟨_, _, _, _, _, _, _, z, _, _⟩ => z | none => none
theorem zeroT_ok {T : TT} {t : Nat} {z : Value} (h : zeroT T t = some z) : ∃ i, tlk T t = some i ∧ i.zero = some z := by
  unfold zeroT at h
  split at h
  · rename_i hi; exact ⟨_, hi, h⟩
  · cases h
def bytesT (T : TT) (t : Nat) : Option Nat := match tlk T t with | some ⟨_, _, _, s, _, _, _, _, _, _⟩ => some s | none => none
theorem bytesT_ok {T : TT} {t s : Nat} (h : bytesT T t = some s) : ∃ i, tlk T t = some i ∧ i.bytes = s := by
  unfold bytesT at h
  split at h
  · rename_i hi; cases h; exact ⟨_, hi, rfl⟩
  · cases h
def aggT (T : TT) (t : Nat) : Option Bool := match und T t with | some d => some (aggD d) | none => none
def cmpB (T : TT) : Nat → Nat → Bool
  | 0, _ => false
  | n + 1, t => match und T t with
    | some .bool => true
    | some (.int _) => true
    | some .string => true
    | some (.pointer _) => true
    | some (.slice _) => true
    | some (.func _ _ _) => true
    | some (.struct fs) => fs.toList.all (fun f => (f.name == "_") || cmpB T n f.type)
    | _ => false
structure TOk (P : Program) (T : TT) : Prop where
  info : ∀ t i, tlk T t = some i → P.info? t = some i
  held : ∀ t i, tlk T t = some i → P.stoodInHeld t = false
  guard : ∀ t i, tlk T t = some i → cmpB T 20 t = true → P.eqGuardType P.depth t = false
theorem tlk_mem : ∀ {T : TT} {t : Nat} {i : TypeInfo}, tlk T t = some i → (t, i) ∈ T
  | [], _, _, h => by simp [tlk] at h
  | (t', i') :: T, t, i, h => by
    simp only [tlk] at h
    split at h
    · rename_i e; cases h; have := Nat.eq_of_beq_eq_true e; subst this; exact List.mem_cons_self
    · exact List.mem_cons_of_mem _ (tlk_mem h)
theorem TOk.of_all {P : Program} {T : TT} (h : ∀ x ∈ T, P.info? x.1 = some x.2 ∧ P.stoodInHeld x.1 = false ∧ (P.eqGuardType P.depth x.1 = false ∨ cmpB T 20 x.1 = false)) : TOk P T :=
  ⟨fun t i e => (h (t, i) (tlk_mem e)).1, fun t i e => (h (t, i) (tlk_mem e)).2.1, fun t i e hc => ((h (t, i) (tlk_mem e)).2.2).resolve_right (fun x => by rw [hc] at x; cases x)⟩
section
variable {P : Program} {T : TT} (hT : TOk P T)
include hT
theorem und_ok {t : Nat} {d : TypeDesc} (h : und T t = some d) : P.underlying t = some d := by
  unfold und at h
  split at h
  · rename_i i hi
    have h1 := hT.info _ _ hi
    unfold Program.underlying
    rw [h1]
    split at h
    · rename_i nm u hd
      split at h
      · rename_i j hj
        have h2 := hT.info _ _ hj
        obtain ⟨desc, _, _, _, _, _, _, _, _, _⟩ := i
        simp only at hd
        subst hd
        simp only [h2, Option.map_some]; exact h
      · cases h
    · rename_i hd
      obtain ⟨desc, _, _, _, _, _, _, _, _, _⟩ := i
      simp only at hd h
      cases desc <;> first | exact h | exact absurd rfl (hd _ _)
  · cases h
theorem run_und {t : Nat} {d : TypeDesc} (h : und T t = some d) (w : World) : (underlying t).run P w = .ok d w := run_underlying (und_ok hT h) w
theorem run_size {t : Nat} {i : TypeInfo} (h : tlk T t = some i) (w : World) : (sizeOf t).run P w = .ok i.size w := by
  simp [sizeOf, typeInfo, hT.info _ _ h]
theorem run_sizeT {t s : Nat} (h : sizeT T t = some s) (w : World) : (sizeOf t).run P w = .ok s w := by
  obtain ⟨i, hi, rfl⟩ := sizeT_ok h; exact run_size hT hi w
theorem run_zeroT {t : Nat} {z : Value} (h : zeroT T t = some z) (w : World) : (zeroValue t).run P w = .ok z w := by
  obtain ⟨i, hi, hz⟩ := zeroT_ok h
  simp [zeroValue, typeInfo, hT.info _ _ hi, hz]
theorem run_info {t : Nat} {i : TypeInfo} (h : tlk T t = some i) (w : World) : (typeInfo t).run P w = .ok i w := by
  simp [typeInfo, hT.info _ _ h]
theorem run_agg {t : Nat} {b : Bool} (h : aggT T t = some b) (w : World) : (isAgg t).run P w = .ok b w := by
  unfold aggT at h
  split at h
  · rename_i d hd
    cases h
    simp only [isAgg, Sem.run_bind, run_und hT hd, Result.andThen_ok]
    cases d <;> rfl
  · cases h
end
def seg (cs : List Value) (off n : Nat) : List Value := (cs.drop off).take n
def tkE : Nat → List Value → Option (List Value)
  | 0, _ => some []
  | n + 1, x :: l => match tkE n l with | some r => some (x :: r) | none => none
  | _ + 1, [] => none
theorem tkE_ok : ∀ {n : Nat} {l r : List Value}, tkE n l = some r → r = l.take n ∧ n ≤ l.length
  | 0, l, r, h => by simp [tkE] at h; subst h; simp
  | n + 1, x :: l, r, h => by
    simp only [tkE] at h
    split at h
    · rename_i r' hr; cases h; obtain ⟨h1, h2⟩ := tkE_ok hr; subst h1; simp [h2]
    · cases h
  | n + 1, [], r, h => by simp [tkE] at h
def segE (cs : List Value) (off n : Nat) : Option (List Value) :=
  match Nat.beq off 0 with
  | true => match Nat.beq n cs.length with | true => some cs | false => tkE n cs
  | false => tkE n (cs.drop off)
theorem segE_ok {cs vs : List Value} {off n : Nat} (h : segE cs off n = some vs) : vs = seg cs off n ∧ (off + n ≤ cs.length ∨ n = 0) := by
  unfold segE at h
  split at h
  · rename_i h0
    have h0 := Nat.eq_of_beq_eq_true h0
    subst h0
    split at h
    · rename_i hn
      have hn := Nat.eq_of_beq_eq_true hn
      cases h; subst hn; simp [seg]
    · obtain ⟨h1, h2⟩ := tkE_ok h; subst h1; exact ⟨by simp [seg], by omega⟩
  · obtain ⟨h1, h2⟩ := tkE_ok h; subst h1; refine ⟨rfl, ?_⟩; simp at h2; omega
def putE : List Value → List Value → Option (List Value)
  | [], cs => some cs
  | v :: vs, _ :: cs => match putE vs cs with | some r => some (v :: r) | none => none
  | _ :: _, [] => none
def setE : List Value → Nat → List Value → Option (List Value)
  | cs, 0, vs => match Nat.beq vs.length cs.length with | true => some vs | false => putE vs cs
  | c :: cs, k + 1, vs => match setE cs k vs with | some r => some (c :: r) | none => none
  | [], _ + 1, _ => none
def setSeg (zs : List Value) (off : Nat) (vs : List Value) : List Value := zs.take off ++ vs ++ zs.drop (off + vs.length)
theorem putE_ok : ∀ {vs cs r : List Value}, putE vs cs = some r → r = vs ++ cs.drop vs.length ∧ vs.length ≤ cs.length
  | [], cs, r, h => by simp [putE] at h; subst h; simp
  | v :: vs, c :: cs, r, h => by
    simp only [putE] at h
    split at h
    · rename_i r' hr; cases h; obtain ⟨h1, h2⟩ := putE_ok hr; subst h1; simp [h2]
    · cases h
  | _ :: _, [], r, h => by simp [putE] at h
theorem setE_ok : ∀ {cs : List Value} {off : Nat} {vs r : List Value}, setE cs off vs = some r → r = setSeg cs off vs ∧ off + vs.length ≤ cs.length
  | cs, 0, vs, r, h => by
    unfold setE at h
    split at h
    · rename_i hn
      have hn := Nat.eq_of_beq_eq_true hn
      cases h; simp [setSeg, hn]
    · obtain ⟨h1, h2⟩ := putE_ok h; subst h1; simp [setSeg, h2]
  | c :: cs, k + 1, vs, r, h => by
    unfold setE at h
    split at h
    · rename_i r' hr; cases h; obtain ⟨h1, h2⟩ := setE_ok hr; subst h1
      refine ⟨?_, by simp; omega⟩
      have : k + 1 + vs.length = (k + vs.length) + 1 := by omega
      simp [setSeg, this]
    · cases h
  | [], _ + 1, _, r, h => by simp [setE] at h
def partL (T : TT) (t : Nat) (cs : List Value) (off : Nat) : Option Value :=
  match aggT T t with
  | some true => match sizeT T t with
    | some s => match segE cs off s with | some vs => some (.agg ⟨vs⟩) | none => none
    | none => none
  | some false => cs[off]?
  | none => none
theorem extract_seg (cs : Array Value) (off n : Nat) : cs.extract off (off + n) = ⟨seg cs.toList off n⟩ := by
  apply Array.ext'
  simp [seg, List.take_drop]
theorem run_part {P : Program} {T : TT} (hT : TOk P T) {t : Nat} {cs : Array Value} {off : Nat} {v : Value} (h : partL T t cs.toList off = some v) (w : World) : (part t cs off).run P w = .ok v w := by
  unfold partL at h
  split at h
  · rename_i ha
    split at h
    · rename_i i hi
      split at h
      · rename_i vs hvs
        cases h
        rw [(segE_ok hvs).1]
        simp only [part, Sem.run_bind, run_agg hT ha, Result.andThen_ok, if_true, run_sizeT hT hi, Sem.run_pure, extract_seg]
      · cases h
    · cases h
  · rename_i ha
    simp only [part, Sem.run_bind, run_agg hT ha, Result.andThen_ok, Bool.false_eq_true, if_false]
    rw [Array.getElem?_toList] at h
    rw [h]; rfl
  · cases h
def kEq : IntKind → IntKind → Bool
  | .i8, .i8 | .i16, .i16 | .i32, .i32 | .i64, .i64 | .u8, .u8 | .u16, .u16 | .u32, .u32 | .u64, .u64 => true
  | _, _ => false
theorem kEq_eq {a b : IntKind} (h : kEq a b = true) : a = b := by cases a <;> cases b <;> first | rfl | cases h
def isBlank : String → Bool := fun s => s == "_"
def eqv (T : TT) : Nat → Nat → Value → Value → Option Bool
  | 0, _, _, _ => none
  | n + 1, t, x, y =>
    match und T t with
    | some .bool => match x, y with | .bool a, .bool b => some (a == b) | _, _ => none
    | some (.int _) => match x, y with
      | .int k a, .int k' b => match kEq k k' with | true => some (a == b) | false => none
      | _, _ => none
    | some .string => match x, y with | .string a, .string b => some (a.toList == b.toList) | _, _ => none
    | some (.pointer _) => match x, y with
      | .pointer none, .pointer b => some b.isNone
      | .pointer (some _), .pointer none => some false
      | _, _ => none
    | some (.slice _) => match x, y with
      | .slice none _ _, .slice b _ _ => some b.isNone
      | .slice (some _) _ _, .slice none _ _ => some false
      | _, _ => none
    | some (.func _ _ _) => match x, y with
      | .nilFunc, .nilFunc => some true
      | .nilFunc, .func _ _ _ => some false
      | .func _ _ _, .nilFunc => some false
      | _, _ => none
    | some (.struct fs) => match x, y with
      | .agg xs, .agg ys =>
        fs.toList.foldr (fun f r => match isBlank f.name with
          | true => r
          | false => match partL T f.type xs.toList f.offset, partL T f.type ys.toList f.offset with
            | some a, some b => match eqv T n f.type a b with
              | some e => match r with | some r => some (e && r) | none => none
              | none => none
            | _, _ => none) (some true)
      | _, _ => none
    | _ => none
theorem eqv_cmp {T : TT} : ∀ {n : Nat} {t : Nat} {x y : Value} {b : Bool}, eqv T n t x y = some b → cmpB T n t = true
  | 0, _, _, _, _, h => by simp [eqv] at h
  | n + 1, t, x, y, b, h => by
    simp only [eqv] at h
    simp only [cmpB]
    split at h
    · rfl
    · rfl
    · rfl
    · rfl
    · rfl
    · rfl
    · rename_i fs hu
      split at h
      · rename_i xs ys
        clear hu
        generalize fs.toList = l at h ⊢
        induction l generalizing b with
        | nil => rfl
        | cons f l ih =>
          simp only [List.foldr_cons] at h
          rw [List.all_cons, Bool.and_eq_true]
          split at h
          · rename_i hb
            have hb' : (f.name == "_") = true := hb
            exact ⟨by rw [hb']; rfl, ih _ h⟩
          · split at h
            · split at h
              · rename_i e he
                split at h
                · rename_i r hr
                  exact ⟨by rw [eqv_cmp he, Bool.or_true], ih _ hr⟩
                · cases h
              · cases h
            · cases h
      · cases h
    · cases h
theorem eqv_ok {P : Program} {T : TT} (hT : TOk P T) : ∀ {n : Nat} {t : Nat} {x y : Value} {b : Bool}, eqv T n t x y = some b → ∀ d, n ≤ d → ∀ w, (Op.equalIn d t x y).run P w = .ok b w
  | 0, _, _, _, _, h => by simp [eqv] at h
  | n + 1, t, x, y, b, h => by
    intro d hd w
    obtain ⟨d, rfl⟩ : ∃ d', d = d' + 1 := ⟨d - 1, by omega⟩
    simp only [eqv] at h
    split at h
    · rename_i hu
      split at h
      · cases h; exact run_equalIn_bool' w d t _ _ (und_ok hT hu)
      · cases h
    · rename_i hu
      split at h
      · split at h
        · rename_i hk
          cases h
          have := kEq_eq hk; subst this
          exact run_equalIn_int w d t _ _ _ _ (und_ok hT hu)
        · cases h
      · cases h
    · rename_i hu
      split at h
      · cases h; exact run_equalIn_string w d t _ _ (und_ok hT hu)
      · cases h
    · rename_i hu
      split at h
      · cases h; simp [Op.equalIn, run_und hT hu]
      · cases h; simp [Op.equalIn, run_und hT hu]
      · cases h
    · rename_i hu
      split at h
      · cases h; simp [Op.equalIn, run_und hT hu]
      · cases h; simp [Op.equalIn, run_und hT hu]
      · cases h
    · rename_i hu
      split at h
      · cases h; simp [Op.equalIn, run_und hT hu]
      · cases h; simp [Op.equalIn, run_und hT hu]
      · cases h; simp [Op.equalIn, run_und hT hu]
      · cases h
    · rename_i fs hu
      split at h
      · rename_i xs ys
        have hheld : P.stoodInHeld t = false := by
          cases hi : tlk T t with
          | none => simp [und, hi] at hu
          | some i => exact hT.held _ _ hi
        have hu' := und_ok hT hu
        have hf : P.fieldsOf t = fs := by simp [Program.fieldsOf, hu']
        rw [run_equalIn_struct w d t xs ys (by rw [hf]; exact hu') hheld, hf]
        clear hu hu' hf hheld
        generalize fs.toList = l at h
        induction l generalizing b w with
        | nil => simp at h; subst h; simp [Op.eqFields]
        | cons f l ih =>
          simp only [List.foldr_cons] at h
          split at h
          · rename_i hb
            have : f.name = "_" := by simpa [isBlank] using hb
            simp only [Op.eqFields, this, ne_eq, not_true_eq_false, if_false]
            exact ih _ w h
          · rename_i hb
            have hne : f.name ≠ "_" := by simpa [isBlank] using hb
            split at h
            · rename_i a b' ha hb'
              split at h
              · rename_i e he
                split at h
                · rename_i r hr
                  cases h
                  simp only [Op.eqFields, hne, ne_eq, not_false_eq_true, if_true, Sem.run_bind, run_part hT ha, run_part hT hb', Result.andThen_ok, eqv_ok hT he d (by omega)]
                  cases e
                  · simp
                  · simpa using ih _ w hr
                · cases h
              · cases h
            · cases h
      · cases h
    · cases h
end Go.Chi
namespace Go.Chi
def iand (k : IntKind) (x y : Int) : Int := k.wrap ((BitVec.ofInt k.bits x &&& BitVec.ofInt k.bits y).toNat : Int)
def ior (k : IntKind) (x y : Int) : Int := k.wrap ((BitVec.ofInt k.bits x ||| BitVec.ofInt k.bits y).toNat : Int)
def ixor (k : IntKind) (x y : Int) : Int := k.wrap ((BitVec.ofInt k.bits x ^^^ BitVec.ofInt k.bits y).toNat : Int)
def iandn (k : IntKind) (x y : Int) : Int := k.wrap ((BitVec.ofInt k.bits x &&& ~~~ BitVec.ofInt k.bits y).toNat : Int)
def intE (op : BinOp) (k : IntKind) (x y : Int) : Option Value :=
  match op with
  | .add => some (.int k (k.wrap (x + y)))
  | .sub => some (.int k (k.wrap (x - y)))
  | .mul => some (.int k (k.wrap (x * y)))
  | .and => some (.int k (iand k x y))
  | .or => some (.int k (ior k x y))
  | .xor => some (.int k (ixor k x y))
  | .andNot => some (.int k (iandn k x y))
  | .eql => some (.bool (x == y))
  | .neq => some (.bool (x != y))
  | .lss => some (.bool (decide (x < y)))
  | .leq => some (.bool (decide (x ≤ y)))
  | .gtr => some (.bool (decide (x > y)))
  | .geq => some (.bool (decide (x ≥ y)))
  | _ => none
def strE (op : BinOp) (x y : ByteArray) : Option Value :=
  match op with
  | .eql => some (.bool (x.toList == y.toList))
  | .neq => some (.bool (!(x.toList == y.toList)))
  | .lss => some (.bool (Op.bytesLess x.toList y.toList))
  | .leq => some (.bool (Op.bytesLess x.toList y.toList || x.toList == y.toList))
  | .gtr => some (.bool (!(Op.bytesLess x.toList y.toList || x.toList == y.toList)))
  | .geq => some (.bool (!Op.bytesLess x.toList y.toList))
  | _ => none
def deepV : Value → Bool
  | .bool _ => true
  | .agg _ => true
  | .pointer _ => true
  | .slice _ _ _ => true
  | .func _ _ _ => true
  | .nilFunc => true
  | _ => false
def eqE (T : TT) (op : BinOp) (t : Nat) (x y : Value) : Option Value :=
  match op with
  | .eql => match eqv T 20 t x y with | some b => some (.bool b) | none => none
  | .neq => match eqv T 20 t x y with | some b => some (.bool (!b)) | none => none
  | _ => none
def binE (T : TT) (op : BinOp) (t : Nat) (x y : Value) : Option Value :=
  match x, y with
  | .int k a, .int k' b => match kEq k k' with | true => intE op k a b | false => none
  | .string a, .string b => strE op a b
  | x, y => match deepV x && deepV y with | true => eqE T op t x y | false => none
def pickE (σ : Env) (δ : Den) (cur : Path) (s : Nat) (b : Bool) (x y : Operand) : Option Value :=
  match x with
  | .const (.bool true) => match ev σ δ ((s, false) :: cur) y with
    | some (.bool c) => some (.bool (b || c))
    | _ => match b with | true => some (.bool true) | false => none
  | x => match y with
    | .const (.bool false) => match ev σ δ ((s, true) :: cur) x with
      | some (.bool c) => some (.bool (b && c))
      | _ => match b with | false => some (.bool false) | true => none
    | _ => none
def cellsL : Value → List Value
  | .agg cs => cs.toList
  | v => [v]
def fillL (T : TT) (fs : List Field) : List Value → List (Nat × Value) → Option (List Value)
  | zs, [] => some zs
  | zs, (i, v) :: r => match fs[i]? with
    | some ⟨_, ft, o, _, _, _, _⟩ => match sizeT T ft with
      | some j => match Nat.beq (cellsL v).length j with
        | true => match setE zs o (cellsL v) with
          | some zs' => fillL T fs zs' r
          | none => none
        | false => none
      | none => none
    | none => none
def evParts (σ : Env) (δ : Den) (cur : Path) : List (Nat × Operand) → Option (List (Nat × Value))
  | [] => some []
  | (i, x) :: r => match ev σ δ cur x with
    | some v => match evParts σ δ cur r with
      | some vs => some ((i, v) :: vs)
      | none => none
    | none => none
def fieldsKnown (T : TT) : List Field → Bool
  | [] => true
  | f :: fs => match tlk T f.type with | some _ => fieldsKnown T fs | none => false
def lenE (T : TT) (σ : Env) (δ : Den) (cur : Path) (c : Call) : Option Value :=
  match c.callee with
  | .builtin .len => match c.args.toList, c.argTypes.toList with
    | [x], [t] => match und T t, ev σ δ cur x with
      | some .string, some (.string s) => some (.int .i64 (s.size : Int))
      | some (.slice _), some (.slice _ n _) => some (.int .i64 (n : Int))
      | _, _ => none
    | _, _ => none
  | _ => none
def pev (T : TT) (σ : Env) (δ : Den) (cur : Path) : Op → Option Value
  | .move x => ev σ δ cur x
  | .assign x => ev σ δ cur x
  | .pick c x y => match c with
    | .tmp s => match lka σ δ cur s with
      | some (.bool b) => pickE σ δ cur s b x y
      | _ => none
    | _ => none
  | .fieldAddr s x f => match ev σ δ cur x with
    | some (.pointer (some ⟨b, off, none⟩)) => match und T s with
      | some (.struct fs) => match fs.toList[f]? with
        | some ⟨_, ft, o, _, _, _, _⟩ => match sizeT T ft with
          | some (_ + 1) => some (.pointer (some ⟨b, off + o, none⟩))
          | _ => none
        | none => none
      | _ => none
    | _ => none
  | .field s x f => match ev σ δ cur x with
    | some (.agg cs) => match und T s with
      | some (.struct fs) => match fs.toList[f]? with
        | some ⟨_, ft, o, _, _, _, _⟩ => partL T ft cs.toList o
        | none => none
      | _ => none
    | _ => none
  | .binOp op t x y _ => match ev σ δ cur x with
    | some a => match ev σ δ cur y with
      | some b => binE T op t a b
      | none => none
    | none => none
  | .unOp op _ x => match op, ev σ δ cur x with
    | .not, some (.bool b) => some (.bool !b)
    | .neg, some (.int k n) => some (.int k (k.wrap (0 - n)))
    | _, _ => none
  | .convert s d x => match und T s, und T d, ev σ δ cur x with
    | some _, some (.int k), some (.int _ n) => some (.int k (k.wrap n))
    | some _, some .string, some (.string s) => some (.string s)
    | _, _, _ => none
  | .extract x i => match ev σ δ cur x with
    | some (.tuple vs) => vs.toList[i]?
    | _ => none
  | .makeFunc fn first captured => match evs σ δ cur first.toList with
    | some a => match evs σ δ cur captured.toList with
      | some b => some (.func fn ⟨a⟩ ⟨b⟩)
      | none => none
    | none => none
  | .nilCheck x => match ev σ δ cur x with
    | some (.pointer (some a)) => some (.pointer (some a))
    | some (.func (.func f) a b) => some (.func (.func f) a b)
    | some (.func (.yield f) a b) => some (.func (.yield f) a b)
    | _ => none
  | .build t parts => match und T t with
    | some (.struct fs) => match zeroT T t with
        | some (.agg zs) => match evParts σ δ cur parts.toList with
          | some ps => match fieldsKnown T fs.toList with
            | true => match fillL T fs.toList zs.toList ps with
              | some cs => some (.agg ⟨cs⟩)
              | none => none
            | false => none
          | none => none
        | _ => none
    | _ => none
  | .call c => lenE T σ δ cur c
  | _ => none
section
variable {P : Program} {T : TT} {ro : Option Nat} {σ : Env} {δ : Den} {cur : Path} {M : Mem} {L : HL} {d : Option Nat} {op : Op} {ty : TypeId} {pos : String} {aft : Array Edge} {g : Option (Nat × Bool)} {v : Value}
theorem qt_of_run (hs : ∀ ρ, Oper.semAt ro ρ ⟨d, op, ty, pos, aft, g⟩ = execOp ρ ⟨d, op, ty, pos, aft, g⟩)
    (h : ∀ a w, Sees σ δ a → holds a cur → Hp M L w → (execOp a.eval ⟨d, op, ty, pos, aft, g⟩).run P w = .ok (.value v) w) : Qt P ro ⟨d, op, ty, pos, aft, g⟩ σ δ cur M L v :=
  fun a w h1 h2 h3 => opWp_value (by rw [hs]; exact h a w h1 h2 h3) ⟨M, L, h3, rfl, rfl, rfl⟩
theorem semAt_of (h : ∀ c, op ≠ .defer c) : ∀ ρ, Oper.semAt ro ρ ⟨d, op, ty, pos, aft, g⟩ = execOp ρ ⟨d, op, ty, pos, aft, g⟩ := fun _ => Oper.semAt_eq _ _ _ h
theorem intE_ok {bo : BinOp} {k : IntKind} {x y : Int} (h : intE bo k x y = some v) (t : TypeId) (w : World) : (binOp bo t (.int k x) (.int k y)).run P w = .ok v w := by
  cases bo <;> simp only [intE] at h <;> first | (cases h; done) | skip
  all_goals (injection h with h; subst h; simp [binOp, Op.intArith, Op.intBits, Op.intCmp, iand, ior, ixor, iandn])
theorem strE_ok {bo : BinOp} {x y : ByteArray} (h : strE bo x y = some v) (t : TypeId) (w : World) : (binOp bo t (.string x) (.string y)).run P w = .ok v w := by
  cases bo <;> simp only [strE] at h <;> first | (cases h; done) | skip
  all_goals (injection h with h; subst h; simp [binOp, Op.stringOp])
theorem eqE_ok (hT : TOk P T) {bo : BinOp} {t : TypeId} {x y : Value} (hx : deepV x = true) (hy : deepV y = true) (h : eqE T bo t x y = some v) (w : World) : (binOp bo t x y).run P w = .ok v w := by
  have key : ∀ b, eqv T 20 t x y = some b → ∀ w, (Op.equal t x y).run P w = .ok b w := fun b hb w => eqv_ok hT hb _ (by decide) w
  cases bo <;> simp only [eqE] at h <;> first | (cases h; done) | skip
  · split at h
    · rename_i b hb
      cases h
      have := key b hb w
      cases x <;> first | (cases hx; done) | skip
      all_goals (cases y <;> first | (cases hy; done) | skip)
      all_goals simp [binOp, this]
    · cases h
  · split at h
    · rename_i b hb
      cases h
      have := key b hb w
      cases x <;> first | (cases hx; done) | skip
      all_goals (cases y <;> first | (cases hy; done) | skip)
      all_goals simp [binOp, this]
    · cases h
theorem guard_ok (hT : TOk P T) {bo : BinOp} {t : TypeId} {x y : Value} (xo yo : Operand) (h : binE T bo t x y = some v) (w : World) : (eqGuard bo t xo yo x y).run P w = .ok () w := by
  unfold eqGuard
  cases bo <;> first | rfl | skip
  all_goals
    cases x <;> cases y <;> first | rfl | skip
    · simp [binE, deepV] at h
    · rename_i a b
      simp only [binE, deepV, eqE, Bool.and_self] at h
      have : ∃ i, tlk T t = some i ∧ cmpB T 20 t = true := by
        split at h
        · rename_i c hc
          cases hi : tlk T t with
          | some i => exact ⟨i, rfl, eqv_cmp hc⟩
          | none => simp [eqv, und, hi] at hc
        · cases h
      obtain ⟨i, hi, hcm⟩ := this
      simp [hT.guard t i hi hcm]
theorem binE_ok (hT : TOk P T) {bo : BinOp} {t : TypeId} {x y : Value} (h : binE T bo t x y = some v) (w : World) : (binOp bo t x y).run P w = .ok v w := by
  unfold binE at h
  split at h
  · split at h
    · rename_i hk
      have := kEq_eq hk; subst this
      exact intE_ok h t w
    · cases h
  · exact strE_ok h t w
  · split at h
    · rename_i hx
      rw [Bool.and_eq_true] at hx
      exact eqE_ok hT hx.1 hx.2 h w
    · cases h
theorem cellsL_eq (v : Value) : v.cells = ⟨cellsL v⟩ := by cases v <;> rfl
theorem foldl_set (off : Nat) : ∀ (vs : List Value) (i : Nat) (cs : Array Value), off + i + vs.length ≤ cs.size →
    (vs.zipIdx i).foldl (fun (cs : Array Value) (x : Value × Nat) => cs.setIfInBounds (off + x.2) x.1) cs = ⟨setSeg cs.toList (off + i) vs⟩
  | [], i, cs, _ => by simp [setSeg]
  | v :: vs, i, cs, h => by
    simp only [List.length_cons] at h
    simp only [List.zipIdx_cons, List.foldl_cons]
    rw [foldl_set off vs (i + 1) _ (by simp; omega)]
    apply Array.ext'
    simp only [setSeg, Array.toList_setIfInBounds, List.length_cons]
    have hl : off + i < cs.toList.length := by simp; omega
    apply List.ext_getElem?
    intro j
    simp only [List.append_assoc, List.getElem?_append, List.length_take, List.length_set, List.getElem?_take, List.getElem?_set, List.getElem?_drop, Array.length_toList, List.length_cons, List.getElem?_cons]
    have e1 : min (off + (i + 1)) cs.size = off + i + 1 := by omega
    have e2 : min (off + i) cs.size = off + i := by omega
    rw [e1, e2]
    by_cases c1 : j < off + i
    · rw [if_pos (by omega), if_pos (by omega), if_neg (by omega), if_pos c1, if_pos c1]
    · rw [if_neg c1]
      by_cases c2 : j = off + i
      · subst c2
        rw [if_pos (by omega), if_pos (by omega), if_pos rfl, if_pos (by omega), if_pos (by omega), if_pos (by omega)]
      · rw [if_neg (by omega)]
        by_cases c3 : j - (off + i + 1) < vs.length
        · rw [if_pos c3, if_pos (by omega), if_neg (by omega)]
          congr 1
        · rw [if_neg c3, if_neg (by omega), if_neg (by omega)]
          congr 1; omega
theorem fill_ok (hT : TOk P T) {fs : Array Field} {places : Array (Nat × Nat)} (hp : ∀ (i : Nat) (f : Field) (j : TypeInfo), fs.toList[i]? = some f → tlk T f.type = some j → places[i]? = some (f.offset, j.size)) :
    ∀ (ps : List (Nat × Value)) (zs : List Value) {cs : List Value}, fillL T fs.toList zs ps = some cs → Instr.fill (places[·]?) ⟨zs⟩ ps = some ⟨cs⟩
  | [], zs, cs, h => by simp [fillL] at h; subst h; rfl
  | (i, v) :: r, zs, cs, h => by
    simp only [fillL] at h
    split at h
    · rename_i nm ft o em tg pk bo hf
      split at h
      · rename_i j hj
        obtain ⟨ti, hti, rfl⟩ := sizeT_ok hj
        split at h
        · rename_i hsz
          have hsz := Nat.eq_of_beq_eq_true hsz
          split at h
          · rename_i zs' hzs'
            obtain ⟨rfl, hle⟩ := setE_ok hzs'
            simp only [Instr.fill, hp i _ ti hf hti]
            have hvs : v.cells.size = (cellsL v).length := by rw [cellsL_eq]; rfl
            rw [if_neg (by simp [hvs]; omega)]
            rw [← fill_ok hT hp r _ h]
            congr 1
            rw [cellsL_eq]
            have := foldl_set o (cellsL v) 0 ⟨zs⟩ (by simpa using hle)
            simp only [Nat.add_zero] at this
            rw [← Array.foldl_toList, Array.toList_zipIdx]
            exact this
          · cases h
        · cases h
      · cases h
    · cases h
theorem evParts_ok {a : Act} (hs : Sees σ δ a) (hc : holds a cur) : ∀ {l : List (Nat × Operand)} {ps : List (Nat × Value)}, evParts σ δ cur l = some ps → l.map (fun x => (x.1, a.eval x.2)) = ps
  | [], ps, h => by simp [evParts] at h; simpa using h
  | (i, x) :: l, ps, h => by
    simp only [evParts] at h
    split at h
    · rename_i v e
      split at h
      · rename_i vs e'
        cases h
        simp [ev_sound hs hc e, evParts_ok hs hc e']
      · cases h
    · cases h
theorem mapM_places (hT : TOk P T) (w : World) : ∀ (fs : List Field), (∀ f ∈ fs, ∃ j, tlk T f.type = some j) → ∃ pl : List (Nat × Nat), (fs.mapM (fun f => do pure (f.offset, ← sizeOf f.type)) : Sem (List (Nat × Nat))).run P w = .ok pl w ∧
    ∀ (i : Nat) (f : Field) (j : TypeInfo), fs[i]? = some f → tlk T f.type = some j → pl[i]? = some (f.offset, j.size)
  | [], _ => ⟨[], by simp, fun i f j h => by simp at h⟩
  | f :: fs, h => by
    obtain ⟨j, hj⟩ := h f (by simp)
    obtain ⟨pl, hr, hp⟩ := mapM_places hT w fs (fun f hf => h f (List.mem_cons_of_mem _ hf))
    refine ⟨(f.offset, j.size) :: pl, by simp only [List.mapM_cons, Sem.run_bind, run_size hT hj, Result.andThen_ok, Sem.run_pure, hr], fun i f' j' hi hj' => ?_⟩
    cases i with
    | zero => simp at hi; subst hi; rw [hj] at hj'; cases hj'; simp
    | succ i => simp at hi ⊢; exact hp i f' j' hi hj'
theorem fieldsKnown_ok : ∀ {fs : List Field}, fieldsKnown T fs = true → ∀ f ∈ fs, ∃ j, tlk T f.type = some j
  | [], _, f, hf => by cases hf
  | f' :: fs, h, f, hf => by
    simp only [fieldsKnown] at h
    split at h
    · rename_i j hj
      rcases List.mem_cons.1 hf with rfl | hf
      · exact ⟨j, hj⟩
      · exact fieldsKnown_ok h f hf
    · cases h
theorem add_none (b off n : Nat) : (⟨b, off, none⟩ : Addr).add n = ⟨b, off + n, none⟩ := by
  unfold Addr.add
  split
  · rename_i h; subst h; rfl
  · rfl
theorem qt_pev (hT : TOk P T) (h : pev T σ δ cur op = some v) : Qt P ro ⟨d, op, ty, pos, aft, g⟩ σ δ cur M L v := by
  have hdef : ∀ c, op ≠ .defer c := fun c e => by subst e; simp [pev] at h
  refine qt_of_run (semAt_of hdef) fun a w hs hc _ => ?_
  have hev : ∀ {x u}, ev σ δ cur x = some u → a.eval x = u := fun h => ev_sound hs hc h
  cases op <;> simp only [pev] at h <;> first | (cases h; done) | skip
  case move x => simp [execOp, hev h]
  case assign x => simp [execOp, hev h]
  case pick c x y =>
    split at h
    · rename_i s
      split at h
      · rename_i b hb
        have hsb := lka_sound hs hc hb
        have hcb : a.eval (.tmp s) = .bool b := by simp [Act.eval, Array.getD_eq_getD_getElem?, hsb]
        simp only [execOp, Sem.run_bind, hcb, asBool, Sem.run_pure, Result.andThen_ok]
        have hcons : ∀ b', b = b' → holds a ((s, b') :: cur) := fun b' e x hx => by
          rcases List.mem_cons.1 hx with rfl | hx
          · rw [← e]; exact hsb
          · exact hc x hx
        unfold pickE at h
        split at h
        · split at h
          · rename_i c' hc'
            cases h
            cases b
            · simp [ev_sound hs (hcons false rfl) hc']
            · simp [Act.eval]
          · split at h
            · cases h; simp [Act.eval]
            · cases h
        · split at h
          · split at h
            · rename_i c' hc'
              cases h
              cases b
              · simp [Act.eval]
              · simp [ev_sound hs (hcons true rfl) hc']
            · split at h
              · cases h; simp [Act.eval]
              · cases h
          · cases h
      · cases h
    · cases h
  case fieldAddr s x f =>
    split at h
    · rename_i b off hx
      split at h
      · rename_i fs hu
        split at h
        · rename_i hf
          split at h
          · rename_i n hi
            cases h
            rw [Array.getElem?_toList] at hf
            simp [execOp, hev hx, Instr.fieldAt, run_und hT hu, hf, Instr.sureAddr, fieldPlace, run_sizeT hT hi, add_none]
          · cases h
        · cases h
      · cases h
    · cases h
  case field s x f =>
    split at h
    · rename_i cs hx
      split at h
      · rename_i fs hu
        split at h
        · rename_i hf
          rw [Array.getElem?_toList] at hf
          simp [execOp, hev hx, Instr.field, run_und hT hu, hf, asAgg, run_part hT h]
        · cases h
      · cases h
    · cases h
  case binOp bo t x y u =>
    split at h
    · rename_i va ha
      split at h
      · rename_i vb hb
        simp [execOp, hev ha, hev hb, guard_ok hT x y h, binE_ok hT h]
      · cases h
    · cases h
  case unOp uo t x =>
    split at h
    · rename_i b hx; cases h; simp [execOp, hev hx, Op.unary]
    · rename_i k n hx; cases h; simp [execOp, hev hx, Op.unary, Op.intArith]
    · cases h
  case convert s t x =>
    split at h
    · rename_i u k k' n hs' hu hx
      cases h
      simp [execOp, hev hx, convert, run_und hT hs', run_und hT hu, Conv.intToInt]
    · rename_i u s' hs' hu hx
      cases h
      simp [execOp, hev hx, convert, run_und hT hs', run_und hT hu]
    · cases h
  case extract x i =>
    split at h
    · rename_i vs hx
      rw [Array.getElem?_toList] at h
      simp [execOp, hev hx, Instr.extract, h]
    · cases h
  case makeFunc fn first captured =>
    split at h
    · rename_i va ha
      split at h
      · rename_i vb hb
        cases h
        have h1 := evs_sound hs hc ha
        have h2 := evs_sound hs hc hb
        have e1 : first.map a.eval = ⟨va⟩ := by apply Array.ext'; simpa using h1
        have e2 : captured.map a.eval = ⟨vb⟩ := by apply Array.ext'; simpa using h2
        simp [execOp, Instr.makeFunc, e1, e2]
      · cases h
    · cases h
  case nilCheck x =>
    split at h
    · rename_i b hx; cases h; simp [execOp, hev hx]
    · rename_i f x1 x2 hx; cases h; simp [execOp, hev hx]
    · rename_i f x1 x2 hx; cases h; simp [execOp, hev hx]
    · cases h
  case build t parts =>
    split at h
    · rename_i fs hu
      split at h
      · rename_i zs hz
        split at h
        · rename_i ps hps
          split at h
          · rename_i hk
            split at h
            · rename_i cs hcs
              · cases h
                obtain ⟨pl, hr, hp⟩ := mapM_places hT w fs.toList (fieldsKnown_ok hk)
                have hf := fill_ok hT (places := ⟨pl⟩) (fun i f j h1 h2 => by simpa using hp i f j h1 h2) ps zs.toList hcs
                have hparts : (parts.map fun x => (x.1, a.eval x.2)).toList = ps := by simpa using evParts_ok hs hc hps
                have hm : (fs.mapM (fun f => do pure (f.offset, ← sizeOf f.type)) : Sem (Array (Nat × Nat))).run P w = .ok ⟨pl⟩ w := by
                  rw [Array.mapM_eq_mapM_toList]
                  simp only [Sem.run_map, hr, Result.andThen_ok]
                simp only [execOp, Instr.build, Sem.run_bind, run_zeroT hT hz, Result.andThen_ok, Sem.run_pure, run_und hT hu, hm, hparts, Value.cells, hf]
            · cases h
          · cases h
        · cases h
      · cases h
    · cases h
  case call c =>
    obtain ⟨callee, args, argTypes⟩ := c
    unfold lenE at h
    split at h
    · rename_i hcal
      simp only at hcal
      subst hcal
      split at h
      · rename_i x t hargs htys
        have hargs' : args = #[x] := by apply Array.ext'; simpa using hargs
        have htys' : argTypes = #[t] := by apply Array.ext'; simpa using htys
        subst hargs' htys'
        split at h
        · rename_i s hu hx; cases h; simp [execOp, resolve, invoke, builtin, Builtin.len_, hev hx, run_und hT hu, goInt]
        · rename_i e n c hu hx; cases h; simp [execOp, resolve, invoke, builtin, Builtin.len_, hev hx, run_und hT hu, goInt]
        · cases h
      · cases h
    · cases h
end
end Go.Chi
namespace Go.Chi
def Blk (M : Mem) (L : HL) (b : Nat) (o : Obj) : Prop := (b, o) ∈ L ∨ M.blk b = some o
theorem Hp.at_ {M : Mem} {L : HL} {w : World} (h : Hp M L w) {b : Nat} {o : Obj} (hb : Blk M L b o) : w.heap[b]? = some o := by
  rcases hb with hb | hb
  · exact h.own _ hb
  · exact h.blk _ _ hb
def Cells (M : Mem) (L : HL) (b off : Nat) (vs : List Value) : Prop := ∃ cs t fz, Blk M L b (.cells cs t fz) ∧ ∀ i v, vs[i]? = some v → cs[off + i]? = some v
theorem cellsSeg {M : Mem} {L : HL} {b off n : Nat} {cs : List Value} {t : TypeId} {fz : Nat × Nat} (hm : (b, Obj.cells ⟨cs⟩ t fz) ∈ L) : Cells M L b off (seg cs off n) :=
  ⟨⟨cs⟩, t, fz, .inl hm, fun i u hu => by
    unfold seg at hu
    rw [List.getElem?_take] at hu
    split at hu
    · simpa using hu
    · cases hu⟩
theorem Cells.mono {M M' : Mem} {L L' : HL} {b off : Nat} {vs : List Value} (h : Cells M L b off vs) (hb : ∀ o, Blk M L b o → Blk M' L' b o) : Cells M' L' b off vs := by
  obtain ⟨cs, t, fz, h1, h2⟩ := h
  exact ⟨cs, t, fz, hb _ h1, h2⟩
theorem Cells.sub {M : Mem} {L : HL} {b off : Nat} {vs : List Value} (h : Cells M L b off vs) {k n : Nat} : Cells M L b (off + k) (seg vs k n) := by
  obtain ⟨cs, t, fz, h1, h2⟩ := h
  refine ⟨cs, t, fz, h1, fun i v hv => ?_⟩
  unfold seg at hv
  rw [List.getElem?_take] at hv
  split at hv
  · rw [List.getElem?_drop] at hv; rw [Nat.add_assoc]; exact h2 _ _ hv
  · cases hv
theorem Cells.one {M : Mem} {L : HL} {b off : Nat} {vs : List Value} (h : Cells M L b off vs) {k : Nat} {v : Value} (hv : vs[k]? = some v) : Cells M L b (off + k) [v] := by
  obtain ⟨cs, t, fz, h1, h2⟩ := h
  refine ⟨cs, t, fz, h1, fun i u hu => ?_⟩
  cases i with
  | zero => simp at hu; subst hu; simpa using h2 _ _ hv
  | succ i => simp at hu
theorem Cells.cell {M : Mem} {L : HL} {w : World} (h : Hp M L w) {b off : Nat} {vs : List Value} (hc : Cells M L b off vs) {i : Nat} {v : Value} (hv : vs[i]? = some v) : w.cell? ⟨b, off + i, none⟩ = some v := by
  obtain ⟨cs, t, fz, h1, h2⟩ := hc
  simp [World.cell?, h.at_ h1, h2 i v hv]
section
variable {P : Program} {T : TT} {ro : Option Nat} {σ : Env} {δ : Den} {cur : Path} {M : Mem} {L : HL} {d : Option Nat} {op : Op} {ty : TypeId} {pos : String} {aft : Array Edge} {g : Option (Nat × Bool)} {v : Value}
theorem run_loadCells {w : World} (h : Hp M L w) {b off : Nat} : ∀ (vs pre : List Value), Cells M L b off (pre ++ vs) → (loadCellsFrom ⟨b, off, none⟩ pre.length vs.length ⟨pre⟩).run P w = .ok ⟨pre ++ vs⟩ w
  | [], pre, _ => by simp [loadCellsFrom]
  | v :: vs, pre, hc => by
    have hcell := hc.cell h (i := pre.length) (v := v) (by simp)
    simp only [List.length_cons, loadCellsFrom, Sem.run_bind, run_load, add_none, hcell, Result.andThen_ok]
    have := run_loadCells h vs (pre ++ [v]) (by simpa using hc)
    simpa using this
theorem run_loadVar1 (hT : TOk P T) {w : World} (h : Hp M L w) {b off : Nat} {t : TypeId} (ha : aggT T t = some false) (hc : Cells M L b off [v]) : (loadVar t ⟨b, off, none⟩).run P w = .ok v w := by
  have := hc.cell h (i := 0) (v := v) (by simp)
  simp only [Nat.add_zero] at this
  simp [loadVar, run_agg hT ha, this]
theorem run_loadVarA (hT : TOk P T) {w : World} (h : Hp M L w) {b off : Nat} {t : TypeId} {s : Nat} {vs : List Value} (ha : aggT T t = some true) (hi : sizeT T t = some s) (hc : Cells M L b off vs) (hl : vs.length = s) : (loadVar t ⟨b, off, none⟩).run P w = .ok (.agg ⟨vs⟩) w := by
  have := run_loadCells (P := P) h vs [] (by simpa using hc)
  simp only [List.length_nil, List.nil_append] at this
  simp only [loadVar, Sem.run_bind, run_agg hT ha, Result.andThen_ok, if_true, run_sizeT hT hi, loadCells, ← hl, this, Sem.run_pure]
def oneL : List Value → Bool
  | [] => true
  | v :: vs => match v.oneCell' with | true => oneL vs | false => false
theorem oneL_ok : ∀ {vs : List Value}, oneL vs = true → ∀ v ∈ vs, v.oneCell' = true
  | [], _, v, hv => by cases hv
  | u :: vs, h, v, hv => by
    simp only [oneL] at h
    split at h
    · rename_i hu
      rcases List.mem_cons.1 hv with rfl | hv
      · exact hu
      · exact oneL_ok h v hv
    · cases h
theorem Hp.setRow {w : World} (h : Hp M L w) {b : Nat} {cs cs' : List Value} {t : TypeId} {fz : Nat × Nat} {L' : HL} (hu : Upd L b (.cells ⟨cs⟩ t fz) (.cells ⟨cs'⟩ t fz) L') : Hp M L' (w.setRow b ⟨cs'⟩) := by
  have hb := h.own _ hu.mem
  refine h.upd hu rfl rfl rfl ?_ ?_
  · exact setRow_heap w b ⟨cs⟩ _ t fz hb
  · intro k hk
    simp only [World.setRow, Array.getElem?_modify]
    rw [if_neg (by omega)]
theorem st_store (hT : TOk P T) {t : TypeId} {x y : Operand} {b off s : Nat} {cs cs' : List Value} {et : TypeId} {L' : HL}
    (hx : ev σ δ cur x = some (.pointer (some ⟨b, off, none⟩))) (hy : ev σ δ cur y = some v) (hi : sizeT T t = some s) (hl : (cellsL v).length = s) (h1 : oneL (cellsL v) = true)
    (hu : Upd L b (.cells ⟨cs⟩ et (0, 0)) (.cells ⟨cs'⟩ et (0, 0)) L') (hcs : setE cs off (cellsL v) = some cs') :
    St P ro ⟨d, .store t x y, ty, pos, aft, g⟩ σ δ cur M L (fun v' M' L'' => v' = undef ∧ M = M' ∧ L'' = L') := fun a w hs hcur hp => by
  obtain ⟨hcs, hle⟩ := setE_ok hcs
  refine opWp_skip (w' := w.setRow b ⟨cs'⟩) ?_ ⟨M, L', hp.setRow hu, rfl, rfl, rfl⟩
  rw [semAt_of (by intro c e; cases e)]
  have hrun := run_storeCells_at (P := P) b off et (cellsL v) 0 ⟨cs⟩ w (hp.own _ hu.mem) (by simpa using hle) (oneL_ok h1)
  simp only [Nat.add_zero] at hrun
  have hsz : v.cells.size = s := by rw [cellsL_eq]; exact hl
  simp only [execOp, Instr.storeAt, ev_sound hs hcur hx, ev_sound hs hcur hy, Instr.sureAddr, Sem.run_bind, Sem.run_pure, Result.andThen_ok, storeVar, run_sizeT hT hi, hsz, ne_eq, not_true_eq_false, Sem.run_ite, if_false]
  rw [show v.cells.toList = cellsL v from by rw [cellsL_eq]]
  rw [hrun]
  simp only [Result.andThen_ok]
  rw [hcs]
  simp [setSeg]
def ldE (T : TT) (t : Nat) (cs : List Value) (off : Nat) : Option Value := partL T t cs off
theorem run_ldE (hT : TOk P T) {w : World} (h : Hp M L w) {b off : Nat} {t : TypeId} {cs : List Value} {et : TypeId} {fz : Nat × Nat} (hm : Blk M L b (.cells ⟨cs⟩ et fz)) (hv : ldE T t cs off = some v) : (loadVar t ⟨b, off, none⟩).run P w = .ok v w := by
  have hc : Cells M L b 0 cs := ⟨⟨cs⟩, et, fz, hm, fun i u hu => by simpa using hu⟩
  unfold ldE partL at hv
  split at hv
  · rename_i ha
    split at hv
    · rename_i s hs
      split at hv
      · rename_i vs hvs
        cases hv
        obtain ⟨rfl, hle⟩ := segE_ok hvs
        have := hc.sub (k := off) (n := s)
        rw [Nat.zero_add] at this
        refine run_loadVarA hT h ha hs this ?_
        simp [seg]; omega
      · cases hv
    · cases hv
  · rename_i ha
    have := hc.one hv
    rw [Nat.zero_add] at this
    exact run_loadVar1 hT h ha this
  · cases hv
theorem qt_ld (hT : TOk P T) {t : TypeId} {x : Operand} {b off : Nat} {cs : List Value} {et : TypeId} {fz : Nat × Nat} (hx : ev σ δ cur x = some (.pointer (some ⟨b, off, none⟩))) (hm : (b, Obj.cells ⟨cs⟩ et fz) ∈ L) (hv : ldE T t cs off = some v) :
    Qt P ro ⟨d, .load t x, ty, pos, aft, g⟩ σ δ cur M L v :=
  qt_of_run (semAt_of (by intro c e; cases e)) fun a w hs hcur hp => by
    simp [execOp, Instr.loadAt, ev_sound hs hcur hx, Instr.sureAddr, run_ldE hT hp (.inl hm) hv]
theorem qt_ldM (hT : TOk P T) {t : TypeId} {x : Operand} {b off k : Nat} {cs : List Value} (hx : ev σ δ cur x = some (.pointer (some ⟨b, off + k, none⟩))) (hc : Cells M [] b off cs) (hv : ldE T t cs k = some v) :
    Qt P ro ⟨d, .load t x, ty, pos, aft, g⟩ σ δ cur M L v :=
  qt_of_run (semAt_of (by intro c e; cases e)) fun a w hs hcur hp => by
    have hc' : Cells M L b off cs := hc.mono fun o ho => by
      rcases ho with ho | ho
      · cases ho
      · exact .inr ho
    have : (loadVar t ⟨b, off + k, none⟩).run P w = .ok v w := by
      unfold ldE partL at hv
      split at hv
      · rename_i ha
        split at hv
        · rename_i s hs
          split at hv
          · rename_i vs hvs
            cases hv
            obtain ⟨rfl, hle⟩ := segE_ok hvs
            refine run_loadVarA hT hp ha hs hc'.sub ?_
            simp [seg]; omega
          · cases hv
        · cases hv
      · rename_i ha
        exact run_loadVar1 hT hp ha (hc'.one hv)
      · cases hv
    simp [execOp, Instr.loadAt, ev_sound hs hcur hx, Instr.sureAddr, this]
theorem st_box {t : TypeId} {x : Operand} (hx : ev σ δ cur x = some v) :
    St P ro ⟨d, .box t x, ty, pos, aft, g⟩ σ δ cur M L (fun v' M' L' => ∃ b, v' = .pointer (some ⟨b, 0, none⟩) ∧ M = M' ∧ L' = (b, .cells ⟨cellsL v⟩ t (0, 0)) :: L) := fun a w hs hcur hp => by
  refine opWp_value (v := .pointer (some ⟨w.heap.size, 0, none⟩)) (w' := { w with heap := w.heap.push (.cells ⟨cellsL v⟩ t (0, 0)) }) ?_ ⟨M, _, hp.push _, _, rfl, rfl, rfl⟩
  rw [semAt_of (by intro c e; cases e)]
  simp [execOp, Instr.box, newVar, newRow, ev_sound hs hcur hx, cellsL_eq]
theorem st_alloc (hT : TOk P T) {t : TypeId} (hz : zeroT T t = some v) :
    St P ro ⟨d, .alloc t, ty, pos, aft, g⟩ σ δ cur M L (fun v' M' L' => ∃ b, v' = .pointer (some ⟨b, 0, none⟩) ∧ M = M' ∧ L' = (b, .cells ⟨cellsL v⟩ t (0, 0)) :: L) := fun a w hs hcur hp => by
  refine opWp_value (v := .pointer (some ⟨w.heap.size, 0, none⟩)) (w' := { w with heap := w.heap.push (.cells ⟨cellsL v⟩ t (0, 0)) }) ?_ ⟨M, _, hp.push _, _, rfl, rfl, rfl⟩
  rw [semAt_of (by intro c e; cases e)]
  simp [execOp, Instr.alloc, newVar, newRow, run_zeroT hT hz, cellsL_eq]
theorem qt_index (hT : TOk P T) {t : TypeId} {x y : Operand} {b off len cap : Nat} {k : IntKind} {n : Int} {e s : Nat}
    (hx : ev σ δ cur x = some (.slice (some ⟨b, off, none⟩) len cap)) (hy : ev σ δ cur y = some (.int k n)) (hu : und T t = some (.slice e)) (hi : sizeT T e = some s) (hb : Hy σ δ cur → 0 ≤ n ∧ n < (len : Int)) :
    Qt P ro ⟨d, .indexAddr t x y, ty, pos, aft, g⟩ σ δ cur M L (.pointer (some ⟨b, off + n.toNat * s, none⟩)) :=
  qt_of_run (semAt_of (by intro c e; cases e)) fun a w hs hcur hp => by
    have h := hb (Hy_of hs hcur)
    simp [execOp, Instr.indexAt, ev_sound hs hcur hx, ev_sound hs hcur hy, asIntOf, run_und hT hu, run_sizeT hT hi, add_none, h]
def ishl (k : IntKind) (x n : Int) : Int := k.wrap (x * 2 ^ (min n.toNat k.bits))
def ishr (k : IntKind) (x n : Int) : Int := x.fdiv (2 ^ (min n.toNat k.bits))
theorem qt_shl {t u : TypeId} {x y : Operand} {k k' : IntKind} {m n : Int} (hx : ev σ δ cur x = some (.int k m)) (hy : ev σ δ cur y = some (.int k' n)) (hb : Hy σ δ cur → 0 ≤ n) :
    Qt P ro ⟨d, .binOp .shl t x y u, ty, pos, aft, g⟩ σ δ cur M L (.int k (ishl k m n)) :=
  qt_of_run (semAt_of (by intro c e; cases e)) fun a w hs hcur hp => by
    have h := hb (Hy_of hs hcur)
    have h' : ¬ n < 0 := by omega
    simp [execOp, eqGuard, binOp, ev_sound hs hcur hx, ev_sound hs hcur hy, Op.shift, h', ishl]
theorem qt_shr {t u : TypeId} {x y : Operand} {k k' : IntKind} {m n : Int} (hx : ev σ δ cur x = some (.int k m)) (hy : ev σ δ cur y = some (.int k' n)) (hb : Hy σ δ cur → 0 ≤ n) :
    Qt P ro ⟨d, .binOp .shr t x y u, ty, pos, aft, g⟩ σ δ cur M L (.int k (ishr k m n)) :=
  qt_of_run (semAt_of (by intro c e; cases e)) fun a w hs hcur hp => by
    have h := hb (Hy_of hs hcur)
    have h' : ¬ n < 0 := by omega
    simp [execOp, eqGuard, binOp, ev_sound hs hcur hx, ev_sound hs hcur hy, Op.shift, h', ishr]
theorem qt_rem {t u : TypeId} {x y : Operand} {k : IntKind} {m n : Int} (hx : ev σ δ cur x = some (.int k m)) (hy : ev σ δ cur y = some (.int k n)) (hb : Hy σ δ cur → n ≠ 0) :
    Qt P ro ⟨d, .binOp .rem t x y u, ty, pos, aft, g⟩ σ δ cur M L (.int k (m.tmod n)) :=
  qt_of_run (semAt_of (by intro c e; cases e)) fun a w hs hcur hp => by
    have h := hb (Hy_of hs hcur)
    simp [execOp, eqGuard, binOp, ev_sound hs hcur hx, ev_sound hs hcur hy, Op.intDiv, h]
theorem qt_quo {t u : TypeId} {x y : Operand} {k : IntKind} {m n : Int} (hx : ev σ δ cur x = some (.int k m)) (hy : ev σ δ cur y = some (.int k n)) (hb : Hy σ δ cur → n ≠ 0) :
    Qt P ro ⟨d, .binOp .quo t x y u, ty, pos, aft, g⟩ σ δ cur M L (.int k (k.wrap (m.tdiv n))) :=
  qt_of_run (semAt_of (by intro c e; cases e)) fun a w hs hcur hp => by
    have h := hb (Hy_of hs hcur)
    simp [execOp, eqGuard, binOp, ev_sound hs hcur hx, ev_sound hs hcur hy, Op.intDiv, h]
def Tr (P : Program) (f : FuncId) (args : List Value) (M : Mem) (L : HL) (K : Value → Mem → HL → Prop) : Prop :=
  (∀ w, (callFunc f ⟨args⟩).run P w = .ok (.enter f ⟨args⟩) w) ∧ ∀ w, Hp M L w → Fn P f ⟨args⟩ w (fun v w' => ∃ M' L', Hp M' L' w' ∧ K v M' L')
def TrQ (P : Program) (f : FuncId) (args : List Value) (M : Mem) (L : HL) (v : Value) : Prop := Tr P f args M L (fun v' M' L' => v' = v ∧ M' = M ∧ L' = L)
theorem Tr.mono {f : FuncId} {args : List Value} {K K' : Value → Mem → HL → Prop} (h : Tr P f args M L K) (hk : ∀ v M' L', K v M' L' → K' v M' L') : Tr P f args M L K' :=
  ⟨h.1, fun w hw => (h.2 w hw).mono fun _ _ ⟨M', L', h1, h2⟩ => ⟨M', L', h1, hk _ _ _ h2⟩⟩
theorem st_callF {f : FuncId} {args : Array Operand} {tys : Array TypeId} {vs : List Value} {K : Value → Mem → HL → Prop} (ha : evs σ δ cur args.toList = some vs) (h : Hy σ δ cur → Tr P f vs M L K) :
    St P ro ⟨d, .call ⟨.value (.func f), args, tys⟩, ty, pos, aft, g⟩ σ δ cur M L K := fun a w hs hcur hp => by
  obtain ⟨h1, h2⟩ := h (Hy_of hs hcur)
  refine opWp_enter (w' := w) ?_ (h2 w hp)
  rw [semAt_of (by intro c e; cases e)]
  have e1 : args.map a.eval = ⟨vs⟩ := by apply Array.ext'; simpa using evs_sound hs hcur ha
  simp only [execOp, resolve, e1, Act.eval, Deferred.ofValue, Sem.run_bind, Sem.run_pure, Result.andThen_ok, invoke]
  simpa using h1 w
theorem st_callV {x : Operand} {f : FuncId} {args : Array Operand} {tys : Array TypeId} {first cap : Array Value} {vs : List Value} {K : Value → Mem → HL → Prop} (hx : ev σ δ cur x = some (.func (.func f) first cap)) (ha : evs σ δ cur args.toList = some vs) (h : Hy σ δ cur → Tr P f (first.toList ++ vs ++ cap.toList) M L K) :
    St P ro ⟨d, .call ⟨.value x, args, tys⟩, ty, pos, aft, g⟩ σ δ cur M L K := fun a w hs hcur hp => by
  obtain ⟨h1, h2⟩ := h (Hy_of hs hcur)
  refine opWp_enter (w' := w) ?_ (h2 w hp)
  rw [semAt_of (by intro c e; cases e)]
  have e1 : args.map a.eval = ⟨vs⟩ := by apply Array.ext'; simpa using evs_sound hs hcur ha
  have e2 : first ++ (⟨vs⟩ : Array Value) ++ cap = ⟨first.toList ++ vs ++ cap.toList⟩ := by apply Array.ext'; simp
  simp only [execOp, resolve, e1, ev_sound hs hcur hx, Deferred.ofValue, Sem.run_bind, Sem.run_pure, Result.andThen_ok, invoke, e2]
  exact h1 w
theorem qt_callF {f : FuncId} {args : Array Operand} {tys : Array TypeId} {vs : List Value} (ha : evs σ δ cur args.toList = some vs) (h : Hy σ δ cur → TrQ P f vs M L v) :
    Qt P ro ⟨d, .call ⟨.value (.func f), args, tys⟩, ty, pos, aft, g⟩ σ δ cur M L v := st_callF ha h
end
def argEnv : Nat → List Value → Env
  | _, [] => []
  | i, v :: vs => (i, v) :: argEnv (i + 1) vs
theorem argEnv_lks : ∀ {vs : List Value} {i t : Nat} {v : Value}, lks (argEnv i vs) t = some v → i ≤ t ∧ vs[t - i]? = some v
  | [], _, _, _, h => by simp [argEnv, lks] at h
  | u :: vs, i, t, v, h => by
    simp only [argEnv] at h
    rw [lks_cons] at h
    split at h
    · rename_i e; cases h; subst e; simp
    · obtain ⟨h1, h2⟩ := argEnv_lks h
      refine ⟨by omega, ?_⟩
      rw [show t - i = (t - (i + 1)) + 1 from by omega]
      simpa using h2
def PhiFn (P : Program) (f : FuncId) (K : Value → Mem → HL → Prop) : Frame → World → Prop := fun fr w => ∃ v M L, Hp M L w ∧ K v M L ∧ fr.fn = f ∧ fr.leaving P w (.returned v)
structure FnCx (P : Program) (f : FuncId) (fn : Func) (K : Value → Mem → HL → Prop) (C : Cx) : Prop where
  fnn : P.funcs[f]? = some fn
  b : C.b.fn = f
  kind : C.b.kind = .normal
  ro : C.b.roundOf = none
  phi : C.Φ = PhiFn P f K
theorem Tr.intro {P : Program} {f : FuncId} {fn : Func} {c : Code} {args : List Value} {M : Mem} {L : HL} {K : Value → Mem → HL → Prop} (n : Nat) (hf : P.funcs[f]? = some fn) (hb : fn.body = some c) (hn : fn.ntmps = n) (hc : ∀ args w, (callFunc f args).run P w = .ok (.enter f args) w)
    (ha : Nat.ble args.length n = true) (h : ∀ C, FnCx P f fn K C → C.b.roundOf = none → Run P C n [.code c] [] (argEnv 0 args) M L) : Tr P f args M L K := by
  refine ⟨fun w => hc _ w, fun w hw cs => ?_⟩
  have ha := Nat.le_of_ble_eq_true ha
  let b : Frame := { (default : Frame) with fn := f, kind := .normal, roundOf := none }
  have hro : b.roundOf = none := rfl
  have henter : Frame.enter P f ⟨args⟩ .normal = b.atR { tmps := ⟨args⟩ ++ Array.replicate (n - args.length) undef, defers := [] } [.code c] := by
    simp [Frame.enter, Frame.atR, hf, hb, hn, b]
  have hrun := h ⟨b, cs, PhiFn P f K⟩ ⟨hf, rfl, rfl, rfl, rfl⟩ rfl { tmps := ⟨args⟩ ++ Array.replicate (n - args.length) undef, defers := [] } w (by simp; omega) rfl
    ⟨fun t v e => by
      obtain ⟨_, h2⟩ := argEnv_lks e
      simp only [Nat.sub_zero] at h2
      have hlt : t < args.length := (List.getElem?_eq_some_iff.1 h2).1
      rw [Array.getElem?_append, if_pos (by simpa using hlt)]
      simpa using h2, fun t p v e => by simp [lkd] at e⟩ hw
  obtain ⟨fr', w', hs, v, M', L', h1, h2, h3, h4⟩ := hrun
  rw [henter]
  exact ⟨v, w', fr', ⟨M', L', h1, h2⟩, hs, h3, h4⟩
def resVal : List Value → Value
  | [v] => v
  | vs => .tuple ⟨vs⟩
def ResOk (P : Program) (M : Mem) (L : HL) (σ : Env) : List ResultVar → List Value → Prop
  | [], [] => True
  | .tmp t :: r, v :: vs => lks σ t = some v ∧ ResOk P M L σ r vs
  | .cell a t :: r, v :: vs => (∃ b off, lks σ a = some (.pointer (some ⟨b, off, none⟩)) ∧ ∀ w, Hp M L w → (loadVar t ⟨b, off, none⟩).run P w = .ok v w) ∧ ResOk P M L σ r vs
  | _, _ => False
section
variable {P : Program} {T : TT} {M : Mem} {L : HL} {σ : Env} {rs : List ResultVar} {vs : List Value} {v : Value} {t a b off : Nat}
theorem resN : ResOk P M L σ [] [] := trivial
theorem resT (h : lks σ t = some v) (r : ResOk P M L σ rs vs) : ResOk P M L σ (.tmp t :: rs) (v :: vs) := ⟨h, r⟩
theorem resL (hT : TOk P T) {cs : List Value} {et : TypeId} {fz : Nat × Nat} (h : lks σ a = some (.pointer (some ⟨b, off, none⟩))) (hm : (b, Obj.cells ⟨cs⟩ et fz) ∈ L) (hv : ldE T t cs off = some v) (r : ResOk P M L σ rs vs) : ResOk P M L σ (.cell a t :: rs) (v :: vs) :=
  ⟨⟨b, off, h, fun _ hw => run_ldE hT hw (.inl hm) hv⟩, r⟩
end
def resM (tmps : Array Value) : ResultVar → Sem Value
  | .tmp t => pure (tmps.getD t undef)
  | .cell x t => do loadVar t (← asAddr (tmps.getD x undef))
theorem results_eq (fn : Func) (tmps : Array Value) : results fn tmps = (do
    let vs ← fn.results.mapM (resM tmps)
    pure (if h : vs.size = 1 then vs[0] else .tuple vs)) := by
  unfold results
  congr 1
theorem resOk_run {P : Program} {M : Mem} {L : HL} {σ : Env} {a : Act} (hs : Sees σ [] a) {w : World} (hp : Hp M L w) : ∀ {rs : List ResultVar} {vs : List Value}, ResOk P M L σ rs vs →
    (rs.mapM (resM a.tmps)).run P w = .ok vs w
  | [], [], _ => by simp
  | .tmp t :: r, v :: vs, h => by
    have := hs.s _ _ h.1
    have ih := resOk_run hs hp h.2
    simp only [List.mapM_cons, Sem.run_bind, ih, Result.andThen_ok, Sem.run_pure, resM, Array.getD_eq_getD_getElem?, this, Option.getD_some]
  | .cell x t :: r, v :: vs, h => by
    obtain ⟨⟨b, off, h1, h2⟩, h3⟩ := h
    have := hs.s _ _ h1
    have ih := resOk_run hs hp h3
    simp only [List.mapM_cons, Sem.run_bind, ih, Result.andThen_ok, Sem.run_pure, resM, Array.getD_eq_getD_getElem?, this, Option.getD_some, asAddr, h2 w hp]
  | [], _ :: _, h => h.elim
  | .tmp _ :: _, [], h => h.elim
  | .cell _ _ :: _, [], h => h.elim
theorem results_run {P : Program} {M : Mem} {L : HL} {σ : Env} {a : Act} {fn : Func} (hs : Sees σ [] a) {w : World} (hp : Hp M L w) {vs : List Value} (h : ResOk P M L σ fn.results.toList vs) : (results fn a.tmps).run P w = .ok (resVal vs) w := by
  have hr := resOk_run hs hp h
  rw [results_eq, Array.mapM_eq_mapM_toList]
  simp only [Sem.run_bind, Sem.run_map, hr, Result.andThen_ok, Sem.run_pure]
  congr 1
  cases vs with
  | nil => simp [resVal]
  | cons v vs => cases vs <;> simp [resVal]
theorem run_ret {P : Program} {f : FuncId} {fn : Func} {K : Value → Mem → HL → Prop} {C : Cx} {n : Nat} {k : List Item} {σ : Env} {M M' : Mem} {L L' : HL} (hC : FnCx P f fn K C) {rs : List ResultVar} {vs : List Value} (hrs : fn.results.toList = rs) (hr : ResOk P M L σ rs vs)
    (hm : ∀ w, Hp M L w → Hp M' L' w) (hk : K (resVal vs) M' L') : Run P C n (.code .ret :: k) [] σ M L := fun a w _ h2 h3 h4 => by
  refine J.step (stepR_ret hC.ro) (J.done ?_)
  rw [hC.phi]
  refine ⟨resVal vs, M', L', hm w h4, hk, hC.b, rfl, h2, hC.kind, fn, ?_, ?_⟩
  · show P.funcs[C.b.fn]? = some fn; rw [hC.b]; exact hC.fnn
  · exact results_run h3 h4 (by rw [hrs]; exact hr)
theorem run_end {P : Program} {f : FuncId} {fn : Func} {K : Value → Mem → HL → Prop} {C : Cx} {n : Nat} {σ : Env} {M M' : Mem} {L L' : HL} (hC : FnCx P f fn K C) {rs : List ResultVar} {vs : List Value} (hrs : fn.results.toList = rs) (hr : ResOk P M L σ rs vs)
    (hm : ∀ w, Hp M L w → Hp M' L' w) (hk : K (resVal vs) M' L') : Run P C n [] [] σ M L := fun a w _ h2 h3 h4 => by
  refine J.step (stepR_end hC.ro) (J.done ?_)
  rw [hC.phi]
  refine ⟨resVal vs, M', L', hm w h4, hk, hC.b, rfl, h2, hC.kind, fn, ?_, ?_⟩
  · show P.funcs[C.b.fn]? = some fn; rw [hC.b]; exact hC.fnn
  · exact results_run h3 h4 (by rw [hrs]; exact hr)
end Go.Chi
namespace Go.Chi
def yv (l : Nat) : Value := .func (.yield l) #[] #[]
section
variable {P : Program} {T : TT} {ro : Option Nat} {σ : Env} {δ : Den} {cur : Path} {M : Mem} {L : HL} {d : Option Nat} {op : Op} {ty : TypeId} {pos : String} {aft : Array Edge} {g : Option (Nat × Bool)} {v : Value}
end
theorem Hp.putObj {M : Mem} {L L' : HL} {w : World} {b : Nat} {o o' : Obj} (h : Hp M L w) (hu : Upd L b o o' L') : Hp M L' (w.putObj b o') := by
  have hb := h.own _ hu.mem
  have hlt := (Array.getElem?_eq_some_iff.1 hb).1
  exact h.upd hu rfl rfl rfl (World.putObj_heap_same hlt) fun k hk => World.putObj_heap_other hk
section
variable {P : Program} {C : Cx} {n : Nat} {k : List Item} {σ : Env} {M : Mem} {L L' : HL} {l : Nat} {r : Loop} {K : Value → Mem → HL → Prop}
end
end Go.Chi
namespace Go.Chi
def OS (e size : Nat) (v : Value) (n : Nat) (xs : List Value) (N : HL) : Prop :=
  (v = .slice none 0 0 ∧ n = 0 ∧ xs = [] ∧ N = []) ∨
  (∃ b cap cs, v = .slice (some ⟨b, 0, none⟩) n cap ∧ N = [(b, .cells ⟨cs⟩ e (0, 0))] ∧ n ≤ cap ∧ cs.length = cap * size ∧ cs.take (n * size) = xs)
theorem OS.len {e size : Nat} {v : Value} {n : Nat} {xs : List Value} {N : HL} (h : OS e size v n xs N) : xs.length = n * size := by
  rcases h with ⟨_, rfl, rfl, _⟩ | ⟨b, cap, cs, _, _, hle, hl, rfl⟩
  · simp
  · rw [List.length_take, hl]; exact Nat.min_eq_left (Nat.mul_le_mul_right _ hle)
def Src (M : Mem) (L : HL) (size : Nat) (x : Value) (m : Nat) (news : List Value) : Prop :=
  (x = .slice none 0 0 ∧ m = 0 ∧ news = []) ∨ (∃ b off cap, x = .slice (some ⟨b, off, none⟩) m cap ∧ Cells M L b off news ∧ news.length = m * size)
def SrcG (M : Mem) (L : HL) (size : Nat) (x : Value) (m : Nat) (news : List Value) : Prop :=
  (∃ a cap, x = .slice a 0 cap ∧ m = 0 ∧ news = []) ∨ (∃ b off cap, x = .slice (some ⟨b, off, none⟩) m cap ∧ Cells M L b off news ∧ news.length = m * size)
theorem Src.g {M : Mem} {L : HL} {size : Nat} {x : Value} {m : Nat} {news : List Value} (h : Src M L size x m news) : SrcG M L size x m news := by
  rcases h with ⟨h1, h2, h3⟩ | h
  · exact .inl ⟨none, 0, h1, h2, h3⟩
  · exact .inr h
section
variable {P : Program} {T : TT} {ro : Option Nat} {σ : Env} {δ : Den} {cur : Path} {M : Mem} {L : HL} {d : Option Nat} {op : Op} {ty : TypeId} {pos : String} {aft : Array Edge} {g : Option (Nat × Bool)} {v : Value}
theorem growBy_le (newLen : Nat) : ∀ (r c : Nat), c ≤ newLen → Builtin.growBy newLen r c ≤ newLen + (newLen + 768) / 4
  | 0, c, h => by simp only [Builtin.growBy]; omega
  | r + 1, c, h => by
    simp only [Builtin.growBy]
    split
    · omega
    · by_cases hc : c + (c + 768) / 4 ≤ newLen
      · exact growBy_le newLen r _ hc
      · cases r with
        | zero => simp only [Builtin.growBy]; omega
        | succ r => simp only [Builtin.growBy]; rw [if_pos (by omega)]; omega
theorem nextcap_le {need old : Nat} (h : old < need) : Builtin.nextslicecap need old ≤ 2 * need + 192 := by
  unfold Builtin.nextslicecap
  split
  · omega
  · split
    · omega
    · have := growBy_le need 4 old (by omega)
      omega
theorem run_firstCells {w : World} (h : Hp M L w) {size : Nat} {x : Value} {m : Nat} {news : List Value} (hs : SrcG M L size x m news) : (Builtin.firstCells size m x).run P w = .ok ⟨news⟩ w := by
  rcases hs with ⟨a, cap, rfl, rfl, rfl⟩ | ⟨b, off, cap, rfl, hc, hl⟩
  · cases a with
    | none => simp [Builtin.firstCells]
    | some a => simp only [Builtin.firstCells, Nat.zero_mul, loadCells]; rfl
  · have := run_loadCells (P := P) h news [] (by simpa using hc)
    simp only [List.length_nil, List.nil_append] at this
    simp only [Builtin.firstCells, loadCells, ← hl]
    exact this
theorem zeroCells_size (z : Array Value) (n : Nat) : (Builtin.zeroCells z n).size = n * z.size := by simp [Builtin.zeroCells]
theorem st_append' (hT : TOk P T) {s x : Operand} {t e : TypeId} {i : TypeInfo} {z : Value} {n m : Nat} {xs news : List Value} {xv : Value} {N L0 : HL}
    (hs : ev σ δ cur s = some v) (hx : ev σ δ cur x = some xv) (ht : und T t = some (.slice e)) (hi : tlk T e = some i) (hz : i.zero = some z) (hzs : (cellsL z).length = i.size) (hby : i.bytes ≠ 0)
    (hL : L.Perm (N ++ L0)) (ho : OS e i.size v n xs N) (hsrc : SrcG M L i.size xv m news) (h1 : ∀ u ∈ news, u.oneCell' = true) (hroom : (2 * (n + m) + 192) * i.bytes ≤ 281474976710656) (h63 : n + m < 9223372036854775808) :
    St P ro ⟨d, .call ⟨.builtin .append, #[s, x], #[t, t]⟩, ty, pos, aft, g⟩ σ δ cur M L (fun v' M' L' => ∃ N', M = M' ∧ L' = N' ++ L0 ∧ OS e i.size v' (n + m) (xs ++ news) N') := fun a w hse hcur hp => by
  have hlen := ho.len
  have hes := ev_sound hse hcur hs
  have hex := ev_sound hse hcur hx
  have hp' := hp.perm hL
  have hfirst := run_firstCells (P := P) hp hsrc
  have hlx : ∀ w, (Builtin.lenOf xv).run P w = .ok m w := fun w => by
    rcases hsrc with ⟨_, _, rfl, rfl, _⟩ | ⟨b, off, cap, rfl, _⟩ <;> simp [Builtin.lenOf]
  -- the slice, its base and capacity
  obtain ⟨base, cap, rfl⟩ : ∃ base cap, v = .slice base n cap := by
    rcases ho with ⟨rfl, rfl, _⟩ | ⟨b, cap, cs, rfl, _⟩
    · exact ⟨none, 0, rfl⟩
    · exact ⟨_, cap, rfl⟩
  have hexec : ∀ (r : Result Value), (Builtin.append_ #[t, t] ty #[.slice base n cap, xv]).run P w = r → (execOp a.eval ⟨d, .call ⟨.builtin .append, #[s, x], #[t, t]⟩, ty, pos, aft, g⟩).run P w = r.andThen fun v w' => .ok (.value v) w' := fun r hr => by
    simp only [execOp, resolve, Sem.run_bind, Sem.run_pure, Result.andThen_ok, invoke, builtin, List.map_toArray, List.map_cons, List.map_nil, hes, hex, hr]
  have hund := run_und hT ht
  by_cases hcap : n + m ≤ cap
  · -- in place
    rcases ho with ⟨hv, rfl, rfl, rfl⟩ | ⟨b, cap', cs, hv, rfl, hle, hcl, hxs⟩
    · injection hv with e1 e2 e3
      subst e1 e3
      have hm0 : m = 0 := by omega
      subst hm0
      have hn0 : news = [] := by
        rcases hsrc with ⟨_, _, _, _, h⟩ | ⟨_, _, _, _, _, h⟩
        · exact h
        · exact List.length_eq_zero_iff.1 (by simpa using h)
      subst hn0
      refine opWp_value (v := .slice none 0 0) (w' := w) ?_ ⟨M, L0, by simpa using hp', [], rfl, by simp, .inl ⟨rfl, rfl, by simp, rfl⟩⟩
      rw [semAt_of (by intro c e; cases e), hexec (.ok (.slice none 0 0) w)]
      · rfl
      · simp [Builtin.append_, hund, run_size hT hi, hlx, hfirst]
    · injection hv with e1 e2 e3
      subst e1 e3
      have hnl : news.length = m * i.size := by
        rcases hsrc with ⟨_, _, _, rfl, rfl⟩ | ⟨_, _, _, _, _, h⟩
        · simp
        · exact h
      have hb : w.heap[b]? = some (.cells ⟨cs⟩ e (0, 0)) := hp'.own (b, .cells ⟨cs⟩ e (0, 0)) (by simp)
      have hle2 : n * i.size + news.length ≤ cs.length := by rw [hnl, hcl, ← Nat.add_mul]; exact Nat.mul_le_mul_right _ hcap
      have hrun := run_storeCells_at (P := P) b (n * i.size) e news 0 ⟨cs⟩ w hb (by simpa using hle2) h1
      simp only [Nat.add_zero] at hrun
      refine opWp_value (v := .slice (some ⟨b, 0, none⟩) (n + m) cap) (w' := w.setRow b ⟨setSeg cs (n * i.size) news⟩) ?_ ⟨M, (b, .cells ⟨setSeg cs (n * i.size) news⟩ e (0, 0)) :: L0, ?_, [(b, .cells ⟨setSeg cs (n * i.size) news⟩ e (0, 0))], rfl, rfl, .inr ⟨b, cap, _, rfl, rfl, hcap, ?_, ?_⟩⟩
      · rw [semAt_of (by intro c e; cases e), hexec (.ok (.slice (some ⟨b, 0, none⟩) (n + m) cap) (w.setRow b ⟨setSeg cs (n * i.size) news⟩))]
        · rfl
        · simp only [Builtin.append_, Sem.run_bind, run_size hT hi, hlx, hfirst, Result.andThen_ok, hund, hcap, if_true, Sem.run_pure, Bool.false_eq_true, if_false, Bool.not_false, List.getElem?_toArray, List.getElem?_cons_zero, List.getElem?_cons_succ, add_none, Nat.zero_add, hrun]
          simp [setSeg]
      · exact hp'.setRow (Upd.here _ _ _ _)
      · simp [setSeg]; omega
      · rw [Nat.add_mul, ← hnl]
        have hx' : xs.length = n * i.size := hlen
        unfold setSeg
        rw [hxs, List.take_append_of_le_length (by simp; omega)]
        rw [← hx', ← List.length_append]
        exact List.take_length
  · -- a new array
    have hold : ∀ w, Hp M L w → (Builtin.firstCells i.size n (.slice base n cap)).run P w = .ok ⟨xs⟩ w := fun w hw => by
      refine run_firstCells hw ?_
      rcases ho with ⟨hv, rfl, rfl, rfl⟩ | ⟨b, cap', cs, hv, rfl, hle, hcl, hxs⟩
      · exact .inl ⟨none, 0, hv, rfl, rfl⟩
      · refine .inr ⟨b, 0, cap, ?_, ?_, hlen⟩
        · injection hv with e1 e2 e3; rw [e1]
        · refine ⟨⟨cs⟩, e, (0, 0), .inl (hL.mem_iff.2 (by simp)), fun j u hu => ?_⟩
          rw [← hxs, List.getElem?_take] at hu
          split at hu
          · simpa using hu
          · cases hu
    have hlt : cap < n + m := by omega
    have hnext : ¬ Builtin.nextslicecap (n + m) cap * i.bytes > 2 ^ 48 := by
      have h2 := Nat.mul_le_mul_right i.bytes (nextcap_le hlt)
      have : (2 : Nat) ^ 48 = 281474976710656 := by decide
      omega
    obtain ⟨nc, hnc, hnc2⟩ : ∃ nc, nc = (Question.appendCap (n + m) cap e).cut (w.tape w.drawn (.appendCap (n + m) cap e)) ∧ n + m ≤ nc := ⟨_, rfl, by simp [Question.cut]⟩
    have hd := hp.drawn (w.drawn + 1)
    have hfirst' := run_firstCells (P := P) hd hsrc
    have hold' := hold _ hd
    have hnl : news.length = m * i.size := by
      rcases hsrc with ⟨_, _, _, rfl, rfl⟩ | ⟨_, _, _, _, _, h⟩
      · simp
      · exact h
    let nb : Array Value := ⟨xs⟩ ++ ⟨news⟩ ++ Builtin.zeroCells z.cells (nc - (n + m))
    have hnb : nb = ⟨nb.toList⟩ := rfl
    have hpush := hd.push (.cells nb e (0, 0))
    refine opWp_value (v := .slice (some ⟨w.heap.size, 0, none⟩) (n + m) nc) (w' := { w with drawn := w.drawn + 1, heap := w.heap.push (.cells nb e (0, 0)) }) ?_ ⟨M, (w.heap.size, .cells nb e (0, 0)) :: L0, ?_, [(w.heap.size, .cells nb e (0, 0))], rfl, rfl, .inr ⟨w.heap.size, nc, nb.toList, rfl, rfl, hnc2, ?_, ?_⟩⟩
    · rw [semAt_of (by intro c e; cases e), hexec (.ok (.slice (some ⟨w.heap.size, 0, none⟩) (n + m) nc) { w with drawn := w.drawn + 1, heap := w.heap.push (.cells nb e (0, 0)) })]
      · rfl
      · have hbz : ¬ (i.bytes = 0) := hby
        simp only [Builtin.append_, Sem.run_bind, run_size hT hi, hlx, Result.andThen_ok, hund, hcap, if_false, Sem.run_pure, Bool.false_eq_true, Bool.not_false, if_true, List.getElem?_toArray, List.getElem?_cons_zero, List.getElem?_cons_succ, run_info hT hi, hbz, or_self, and_false, Sem.run_ite, hnext, run_choose, Question.forced, run_askRoom, ← hnc, hold', hfirst', zeroValue, hz]
        rfl
    · have h3 : Hp M ((w.heap.size, .cells nb e (0, 0)) :: (N ++ L0)) { w with drawn := w.drawn + 1, heap := w.heap.push (.cells nb e (0, 0)) } := hpush.perm (List.Perm.cons _ hL)
      have h4 : Hp M (N ++ ((w.heap.size, .cells nb e (0, 0)) :: L0)) { w with drawn := w.drawn + 1, heap := w.heap.push (.cells nb e (0, 0)) } := h3.perm (by simpa using List.perm_middle.symm)
      exact h4.dropAll
    · have hzc : z.cells.size = i.size := by rw [cellsL_eq]; exact hzs
      have : nb.toList.length = xs.length + news.length + (nc - (n + m)) * i.size := by
        rw [Array.length_toList]
        show ((⟨xs⟩ : Array Value) ++ ⟨news⟩ ++ Builtin.zeroCells z.cells (nc - (n + m))).size = _
        rw [Array.size_append, Array.size_append, zeroCells_size, hzc]
        rfl
      rw [this, hlen, hnl, ← Nat.add_mul, ← Nat.add_mul]
      congr 1; omega
    · have : nb.toList = (xs ++ news) ++ (Builtin.zeroCells z.cells (nc - (n + m))).toList := by simp [nb]
      rw [this]
      have hl2 : (xs ++ news).length = (n + m) * i.size := by rw [List.length_append, hlen, hnl, Nat.add_mul]
      rw [← hl2, List.take_left']
      rfl
theorem st_appendG (hT : TOk P T) {s x : Operand} {t e sz by_ : Nat} {z : Value} {n m : Nat} {xs news : List Value} {xv : Value} {N L0 : HL}
    (hs : ev σ δ cur s = some v) (hx : ev σ δ cur x = some xv) (ht : und T t = some (.slice e)) (hi : sizeT T e = some sz) (hz : zeroT T e = some z) (hzs : (cellsL z).length = sz) (hb : bytesT T e = some by_) (hby : Nat.ble 1 by_ = true)
    (hL : L.Perm (N ++ L0)) (ho : OS e sz v n xs N) (hsrc : SrcG M L sz xv m news) (h1 : ∀ u ∈ news, u.oneCell' = true) (hroom : (2 * (n + m) + 192) * by_ ≤ 281474976710656) (h63 : n + m < 9223372036854775808) :
    St P ro ⟨d, .call ⟨.builtin .append, #[s, x], #[t, t]⟩, ty, pos, aft, g⟩ σ δ cur M L (fun v' M' L' => ∃ N', M = M' ∧ L' = N' ++ L0 ∧ OS e sz v' (n + m) (xs ++ news) N') := by
  obtain ⟨i, hi1, rfl⟩ := sizeT_ok hi
  obtain ⟨i2, hi2, hz2⟩ := zeroT_ok hz
  obtain ⟨i3, hi3, rfl⟩ := bytesT_ok hb
  rw [hi1] at hi2 hi3
  cases hi2
  cases hi3
  exact st_append' hT hs hx ht hi1 hz2 hzs (by have := Nat.le_of_ble_eq_true hby; omega) hL ho hsrc h1 hroom h63
def seqParts (size : Nat) : Nat → List (Nat × Value) → Bool
  | _, [] => true
  | j, (i, v) :: r => match Nat.beq i j with
    | true => match Nat.beq (cellsL v).length size with
      | true => seqParts size (j + 1) r
      | false => false
    | false => false
def flatParts : List (Nat × Value) → List Value
  | [] => []
  | (_, v) :: r => cellsL v ++ flatParts r
theorem fill_seq (size : Nat) : ∀ (ps : List (Nat × Value)) (j : Nat) (zs : List Value), seqParts size j ps = true → (j + ps.length) * size ≤ zs.length →
    Instr.fill (fun k => some (k * size, size)) ⟨zs⟩ ps = some ⟨zs.take (j * size) ++ flatParts ps ++ zs.drop ((j + ps.length) * size)⟩ ∧ (flatParts ps).length = ps.length * size
  | [], j, zs, _, _ => by simp [Instr.fill, flatParts]
  | (i, v) :: r, j, zs, h, hl => by
    simp only [seqParts] at h
    split at h
    · rename_i hi
      have hi := Nat.eq_of_beq_eq_true hi
      subst hi
      split at h
      · rename_i hs
        have hs := Nat.eq_of_beq_eq_true hs
        simp only [List.length_cons] at hl
        have hvs : v.cells.size = size := by rw [cellsL_eq]; exact hs
        have hle : i * size + size ≤ zs.length := by
          have : (i + 1) * size ≤ (i + (r.length + 1)) * size := Nat.mul_le_mul_right _ (by omega)
          rw [Nat.add_mul, Nat.one_mul] at this
          omega
        simp only [Instr.fill]
        rw [if_neg (by simp [hvs]; omega)]
        have hset : (v.cells.zipIdx.foldl (fun (cs : Array Value) (x : Value × Nat) => cs.setIfInBounds (i * size + x.2) x.1) ⟨zs⟩) = ⟨setSeg zs (i * size) (cellsL v)⟩ := by
          have := foldl_set (i * size) (cellsL v) 0 ⟨zs⟩ (by simp [hs]; omega)
          simp only [Nat.add_zero] at this
          rw [cellsL_eq, ← Array.foldl_toList, Array.toList_zipIdx]
          exact this
        have hlen : (setSeg zs (i * size) (cellsL v)).length = zs.length := by simp [setSeg, hs]; omega
        have hadd : i + 1 + r.length = i + (r.length + 1) := by omega
        obtain ⟨h1, h2⟩ := fill_seq size r (i + 1) (setSeg zs (i * size) (cellsL v)) h (by rw [hlen, hadd]; exact hl)
        refine ⟨?_, ?_⟩
        · show Instr.fill _ (v.cells.zipIdx.foldl (fun (cs : Array Value) (x : Value × Nat) => cs.setIfInBounds (i * size + x.2) x.1) ⟨zs⟩) r = _
          rw [hset, h1]
          congr 2
          have e1 : (setSeg zs (i * size) (cellsL v)).take ((i + 1) * size) = zs.take (i * size) ++ cellsL v := by
            unfold setSeg
            rw [Nat.add_mul, Nat.one_mul]
            rw [List.take_append_of_le_length (by simp [hs]; omega)]
            rw [List.take_of_length_le (by simp [hs]; omega)]
          have e2 : (setSeg zs (i * size) (cellsL v)).drop ((i + 1 + r.length) * size) = zs.drop ((i + (r.length + 1)) * size) := by
            unfold setSeg
            have hk : (i + 1 + r.length) * size = i * size + size + r.length * size := by rw [Nat.add_mul, Nat.add_mul, Nat.one_mul]
            have hk' : (i + (r.length + 1)) * size = i * size + size + r.length * size := by rw [← hk]; congr 1; omega
            have hA : (zs.take (i * size) ++ cellsL v).length = i * size + size := by simp [hs]; omega
            rw [hk, hk', List.drop_append, hA, List.drop_eq_nil_of_le (by omega), List.nil_append, List.drop_drop, hs]
            congr 1; omega
          rw [e1, e2]
          simp [flatParts]
        · simp only [flatParts, List.length_append, List.length_cons, h2, hs, Nat.add_mul, Nat.one_mul]; omega
      · cases h
    · cases h
theorem st_buildSlice (hT : TOk P T) {t e len sz : Nat} {z : Value} {parts : Array (Nat × Operand)} {ps : List (Nat × Value)} (ht : und T t = some (.slice e)) (hi : sizeT T e = some sz) (hz : zeroT T e = some z)
    (hx : evParts σ δ cur parts.toList = some ps) (hseq : seqParts sz 0 ps = true) (hl : ps.length = len) (hsz : Nat.ble (len * sz) 16777216 = true) :
    St P ro ⟨d, .buildSlice t len parts, ty, pos, aft, g⟩ σ δ cur M L (fun v' M' L' => ∃ b, v' = .slice (some ⟨b, 0, none⟩) len len ∧ M = M' ∧ L' = (b, .cells ⟨flatParts ps⟩ e (0, 0)) :: L) := fun a w hs hcur hp => by
  have hsz := Nat.le_of_ble_eq_true hsz
  refine opWp_value (v := .slice (some ⟨w.heap.size, 0, none⟩) len len) (w' := { w with heap := w.heap.push (.cells ⟨flatParts ps⟩ e (0, 0)) }) ?_ ⟨M, _, hp.push _, _, rfl, rfl, rfl⟩
  rw [semAt_of (by intro c e; cases e)]
  have hparts : (parts.map fun x => (x.1, a.eval x.2)).toList = ps := by simpa using evParts_ok hs hcur hx
  have hfill : ∀ zs : Array Value, zs.size = len * sz → Instr.fill (fun j => some (j * sz, sz)) zs ps = some ⟨flatParts ps⟩ := fun zs hzs' => by
    have h1 := (fill_seq sz ps 0 zs.toList hseq (by rw [hl]; simp [hzs'])).1
    rw [hl] at h1
    rw [show zs = ⟨zs.toList⟩ from rfl, h1]
    simp only [Nat.zero_mul, List.take_zero, List.nil_append, Nat.zero_add]
    rw [List.drop_eq_nil_of_le (by simp [hzs'])]
    simp
  have hlim : ¬ len * sz > 2 ^ 24 := by
    have : (2 : Nat) ^ 24 = 16777216 := by decide
    omega
  have hzv : (zeroValue e).run P w = .ok z w := run_zeroT hT hz w
  simp only [execOp, Instr.buildSlice, Sem.run_bind, run_und hT ht, Result.andThen_ok, run_sizeT hT hi, Sem.run_ite, hlim, if_false, Sem.run_pure, hparts]
  split
  · rw [hfill _ (by simp)]; rfl
  · rw [hzv]
    simp only [Result.andThen_ok]
    rw [hfill _ (by simp)]; rfl
end
end Go.Chi
namespace Go.Chi
structure KeyLaw (P : Program) (kt : TypeId) {κ : Type} [DecidableEq κ] (enc : κ → Value) : Prop where
  eq : ∀ a b w, (Op.equal kt (enc a) (enc b)).run P w = .ok (decide (a = b)) w
  chk : ∀ e a w, (Instr.checkKey e 10000 kt (enc a)).run P w = .ok () w
  und : ∃ de, P.underlying kt = some de ∧ ∀ a b, Instr.sameNow de (enc a) (enc b) = some (decide (a = b)) ∨ Instr.sameNow de (enc a) (enc b) = none
  bits : ∀ a, Instr.sameBits 10000 (enc a) (enc a) = true
section
variable {κ : Type} [DecidableEq κ]
abbrev KV (κ : Type) := List (κ × Value × Nat)
def ents (enc : κ → Value) (es : KV κ) : List MapEntry := es.map fun x => { key := enc x.1, val := x.2.1, born := x.2.2 }
def fnd (a : κ) : KV κ → Nat → Option (Nat × Value)
  | [], _ => none
  | x :: es, i => if a = x.1 then some (i, x.2.1) else fnd a es (i + 1)
def kvGet (es : KV κ) (a : κ) : Option Value := match es with
  | [] => none
  | x :: es => if a = x.1 then some x.2.1 else kvGet es a
def kvSet (es : KV κ) (a : κ) (v : Value) (clock : Nat) : KV κ := match es with
  | [] => [(a, v, clock)]
  | x :: es => if a = x.1 then (x.1, v, x.2.2) :: es else x :: kvSet es a v clock
theorem fnd_get (a : κ) : ∀ (es : KV κ) (i : Nat), (fnd a es i).map (·.2) = kvGet es a
  | [], i => rfl
  | x :: es, i => by
    simp only [fnd, kvGet]
    split
    · rfl
    · exact fnd_get a es (i + 1)
variable {P : Program} {kt : TypeId} {enc : κ → Value}
theorem findNow_ok (de : TypeDesc) (a : κ) (h : ∀ b, Instr.sameNow de (enc a) (enc b) = some (decide (a = b)) ∨ Instr.sameNow de (enc a) (enc b) = none) :
    ∀ (es : KV κ) (i : Nat), Instr.findNow de (enc a) (ents enc es) i = some (fnd a es i) ∨ Instr.findNow de (enc a) (ents enc es) i = none
  | [], i => .inl rfl
  | x :: es, i => by
    have ih := findNow_ok de a h es (i + 1)
    simp only [ents, List.map_cons, Instr.findNow, fnd] at ih ⊢
    rcases h x.1 with hx | hx
    · rw [hx]
      by_cases e : a = x.1
      · simp [e]
      · simp only [e, decide_false, if_false]; exact ih
    · rw [hx]; exact .inr rfl
theorem findAsking_ok (hk : KeyLaw P kt enc) (a : κ) (w : World) : ∀ (es : KV κ) (i : Nat), (Instr.findAsking kt (enc a) (ents enc es) i).run P w = .ok (fnd a es i) w
  | [], i => rfl
  | x :: es, i => by
    have ih := findAsking_ok hk a w es (i + 1)
    simp only [ents, List.map_cons, Instr.findAsking, fnd, Sem.run_bind, hk.eq, Result.andThen_ok, Sem.run_ite] at ih ⊢
    by_cases e : a = x.1
    · simp [e]
    · simp only [e, decide_false, Bool.false_eq_true, if_false]; exact ih
theorem findKey_ok (hk : KeyLaw P kt enc) (a : κ) (es : KV κ) (w : World) : (Instr.findKey kt (enc a) (ents enc es)).run P w = .ok (fnd a es 0) w := by
  obtain ⟨de, hd, hs⟩ := hk.und
  simp only [Instr.findKey, Sem.run_bind, run_underlying hd, Result.andThen_ok]
  rcases findNow_ok de a (hs a) es 0 with h | h
  · rw [h]; rfl
  · rw [h]; exact findAsking_ok hk a w es 0
def lookRes (ok : Bool) (r : Option Value) (z : Value) : Value :=
  match ok, r with
  | true, some v => .tuple #[v, .bool true]
  | true, none => .tuple #[z, .bool false]
  | false, some v => v
  | false, none => z
variable {T : TT} {ro : Option Nat} {σ : Env} {δ : Den} {cur : Path} {M : Mem} {L : HL} {d : Option Nat} {op : Op} {ty : TypeId} {pos : String} {aft : Array Edge} {g : Option (Nat × Bool)} {v : Value}
theorem qt_lookup (hT : TOk P T) (hk : KeyLaw P kt enc) {t : TypeId} {x y : Operand} {b : Nat} {ok : Bool} {et : TypeId} {z kv : Value} {a : κ} {es : KV κ} {clock : Nat}
    (hu : und T t = some (.map kt et)) (hx : ev σ δ cur x = some (.map (some b))) (hy : ev σ δ cur y = some kv) (he : kv = enc a) (hb : Blk M L b (.map ⟨ents enc es⟩ clock)) (hz : zeroT T et = some z) :
    Qt P ro ⟨d, .lookup t x y ok, ty, pos, aft, g⟩ σ δ cur M L (lookRes ok (kvGet es a) z) :=
  qt_of_run (semAt_of (by intro c e; cases e)) fun act w hs hcur hp => by
    have hb' := hp.at_ hb
    subst he
    have hget : (getObj b).run P w = .ok (.map ⟨ents enc es⟩ clock) w := by simp [getObj, Sem.run, hb']
    simp only [execOp, Instr.lookup, ev_sound hs hcur hx, ev_sound hs hcur hy, Sem.run_bind, run_und hT hu, Result.andThen_ok, hget, Sem.run_pure, hk.chk, findKey_ok hk]
    rw [← fnd_get a es 0]
    cases h : fnd a es 0 with
    | none =>
      have hzv : (zeroValue et).run P w = .ok z w := run_zeroT hT hz w
      simp only [Sem.run_bind, hzv, Result.andThen_ok, Sem.run_pure, Option.map_none]
      cases ok <;> rfl
    | some r =>
      obtain ⟨j, u⟩ := r
      simp only [Option.map_some]
      cases ok <;> rfl
theorem fnd_set (a : κ) (v : Value) (clock : Nat) : ∀ (es : KV κ) (i : Nat),
    (∀ j u, fnd a es i = some (j, u) → i ≤ j ∧ ∃ old born, es[j - i]? = some (a, old, born) ∧ kvSet es a v clock = es.modify (j - i) (fun x => (x.1, v, x.2.2))) ∧
    (fnd a es i = none → kvSet es a v clock = es ++ [(a, v, clock)])
  | [], i => ⟨fun j u h => by simp [fnd] at h, fun _ => rfl⟩
  | x :: es, i => by
    obtain ⟨ih1, ih2⟩ := fnd_set a v clock es (i + 1)
    constructor
    · intro j u h
      simp only [fnd] at h
      split at h
      · rename_i e
        cases h
        subst e
        exact ⟨Nat.le_refl _, x.2.1, x.2.2, by simp, by simp [kvSet]⟩
      · rename_i e
        obtain ⟨h1, old, born, h2, h3⟩ := ih1 j u h
        refine ⟨by omega, old, born, ?_, ?_⟩
        · rw [show j - i = (j - (i + 1)) + 1 from by omega]; simpa using h2
        · simp only [kvSet, e, if_false]
          rw [show j - i = (j - (i + 1)) + 1 from by omega, h3]; simp
    · intro h
      simp only [fnd] at h
      split at h
      · cases h
      · rename_i e
        simp only [kvSet, e, if_false, ih2 h, List.cons_append]
theorem st_mapUpdate (hT : TOk P T) (hk : KeyLaw P kt enc) {t : TypeId} {x y q : Operand} {b : Nat} {et : TypeId} {kv : Value} {a : κ} {es : KV κ} {clock : Nat} {L' : HL} {mo : Op}
    (hmo : mo = .mapUpdate t x y q ∨ mo = .insert t x y q)
    (hu : und T t = some (.map kt et)) (hx : ev σ δ cur x = some (.map (some b))) (hy : ev σ δ cur y = some kv) (he : kv = enc a) (hq : ev σ δ cur q = some v)
    (hL : Upd L b (.map ⟨ents enc es⟩ clock) (.map ⟨ents enc (kvSet es a v clock)⟩ (if (kvGet es a).isSome then clock else clock + 1)) L') :
    St P ro ⟨d, mo, ty, pos, aft, g⟩ σ δ cur M L (fun v' M' L'' => v' = undef ∧ M = M' ∧ L'' = L') := fun act w hs hcur hp => by
  have hb' := hp.own _ hL.mem
  subst he
  refine opWp_skip (w' := w.putObj b (.map ⟨ents enc (kvSet es a v clock)⟩ (if (kvGet es a).isSome then clock else clock + 1))) ?_ ⟨M, L', hp.putObj hL, rfl, rfl, rfl⟩
  have hdef : ∀ c, mo ≠ .defer c := fun c e => by rcases hmo with h | h <;> (rw [h] at e; cases e)
  rw [semAt_of hdef]
  have hexe : execOp act.eval ⟨d, mo, ty, pos, aft, g⟩ = (do Instr.mapUpdate t (act.eval x) (act.eval y) (act.eval q); pure .skip) := by rcases hmo with rfl | rfl <;> rfl
  rw [hexe]
  have hget : (getObj b).run P w = .ok (.map ⟨ents enc es⟩ clock) w := by simp [getObj, Sem.run, hb']
  have hset : ∀ o, (setObj b o).run P w = .ok () (w.putObj b o) := fun o => by simp [setObj, Sem.run, hb', World.putObj]
  simp only [Instr.mapUpdate, ev_sound hs hcur hx, ev_sound hs hcur hy, ev_sound hs hcur hq, Sem.run_bind, run_und hT hu, Result.andThen_ok, hget, hk.chk, findKey_ok hk]
  have hg := fnd_get a es 0
  obtain ⟨h1, h2⟩ := fnd_set a v clock es 0
  cases h : fnd a es 0 with
  | none =>
    rw [h] at hg
    simp only [hset, Result.andThen_ok, Sem.run_pure]
    rw [← hg, h2 h]
    congr 3
    simp [ents]
  | some r =>
    obtain ⟨j, u⟩ := r
    obtain ⟨_, old, born, h3, h4⟩ := h1 j u h
    simp only [Nat.sub_zero] at h3 h4
    rw [h] at hg
    have hkey : (((⟨ents enc es⟩ : Array MapEntry)[j]?).map (·.key)).getD (enc a) = enc a := by simp [ents, h3]
    simp only [hkey, Sem.run_bind, Instr.keyThatStays, hk.bits, if_true, Sem.run_pure, Result.andThen_ok, hset]
    rw [← hg, h4]
    congr 3
    apply Array.ext'
    simp only [Array.toList_modify, ents]
    apply List.ext_getElem?
    intro n
    simp only [List.getElem?_modify, List.getElem?_map]
    cases hn : es[n]? with
    | none => simp
    | some y =>
      simp only [Option.map_some]
      by_cases e : j = n
      · subst e; rw [h3] at hn; cases hn; simp
      · simp [e]
end
theorem st_makeMap {P : Program} {ro : Option Nat} {σ : Env} {δ : Den} {cur : Path} {M : Mem} {L : HL} {d : Option Nat} {ty : TypeId} {pos : String} {aft : Array Edge} {g : Option (Nat × Bool)} {t : TypeId} : St P ro ⟨d, .makeMap t none, ty, pos, aft, g⟩ σ δ cur M L (fun v' M' L' => ∃ b, v' = .map (some b) ∧ M = M' ∧ L' = (b, .map ⟨[]⟩ 0) :: L) := fun a w hs hcur hp => by
  refine opWp_value (v := .map (some w.heap.size)) (w' := { w with heap := w.heap.push (.map #[] 0) }) ?_ ⟨M, _, hp.push _, _, rfl, rfl, rfl⟩
  rw [semAt_of (by intro c e; cases e)]
  simp [execOp, Instr.makeMap]
theorem chk_plain {P : Program} {kt : TypeId} {de : TypeDesc} {v : Value} (hu : P.underlying kt = some de) (hd : ∀ ms, de ≠ .interface ms) (ha : ∀ n e, de ≠ .array n e) (hs : ∀ fs, de ≠ .struct fs) (e : Bool) (n : Nat) (w : World) : (Instr.checkKey e (n + 1) kt v).run P w = .ok () w := by
  simp only [Instr.checkKey, Sem.run_bind, run_underlying hu, Result.andThen_ok]
  cases de <;> first | rfl | exact absurd rfl (hd _) | exact absurd rfl (ha _ _) | exact absurd rfl (hs _)
theorem bytes_eq {a b : ByteArray} (h : a.toList = b.toList) : a = b := by
  rw [ByteArray.toList_eq, ByteArray.toList_eq] at h
  obtain ⟨x⟩ := a
  obtain ⟨y⟩ := b
  congr 1
  exact Array.ext' h
theorem bytes_beq (a b : ByteArray) : (a.toList == b.toList) = decide (a = b) := by
  by_cases e : a = b
  · subst e; simp
  · rw [decide_eq_false e]
    cases h : a.toList == b.toList with
    | false => rfl
    | true => exact absurd (bytes_eq (eq_of_beq h)) e
theorem keyInt {P : Program} {T : TT} (hT : TOk P T) {kt : TypeId} {k k' : IntKind} (hu : und T kt = some (.int k')) : KeyLaw P kt (fun n : Int => .int k n) where
  eq := fun a b w => by rw [Op.equal, Op.maxDepth, run_equalIn_int w 9999 kt k k' a b (und_ok hT hu)]; congr 1
  chk := fun e a w => chk_plain (und_ok hT hu) (by intro x h; cases h) (by intro x y h; cases h) (by intro x h; cases h) e 9999 w
  und := ⟨_, und_ok hT hu, fun a b => .inl (by simp only [Instr.sameNow, if_true]; congr 1)⟩
  bits := fun a => by simp [Instr.sameBits]
theorem keyStr {P : Program} {T : TT} (hT : TOk P T) {kt : TypeId} (hu : und T kt = some .string) : KeyLaw P kt (fun n : ByteArray => .string n) where
  eq := fun a b w => by
    rw [Op.equal, Op.maxDepth, run_equalIn_string w 9999 kt a b (und_ok hT hu)]
    rw [bytes_beq]
  chk := fun e a w => chk_plain (und_ok hT hu) (by intro x h; cases h) (by intro x y h; cases h) (by intro x h; cases h) e 9999 w
  und := ⟨_, und_ok hT hu, fun a b => .inl (by simp only [Instr.sameNow]; rw [beq_toListBytes, bytes_beq])⟩
  bits := fun a => by simp only [Instr.sameBits]; rw [beq_toListBytes, bytes_beq]; simp
end Go.Chi
namespace Go.Chi
section
variable {P : Program} {T : TT} {ro : Option Nat} {σ : Env} {δ : Den} {cur : Path} {M : Mem} {L : HL} {d : Option Nat} {op : Op} {ty : TypeId} {pos : String} {aft : Array Edge} {g : Option (Nat × Bool)} {v : Value}
def SlM (M : Mem) (size : Nat) (a : Option Addr) (len : Nat) (ls : List (List Value)) : Prop :=
  ls.length = len ∧ (∀ l ∈ ls, l.length = size) ∧ (ls = [] ∨ ∃ b off, a = some ⟨b, off, none⟩ ∧ ∀ (i : Nat) c, ls[i]? = some c → Cells M [] b (off + i * size) c)
theorem SlM.nil (M : Mem) (size : Nat) (a : Option Addr) : SlM M size a 0 [] := ⟨rfl, (fun _ h => by cases h), .inl rfl⟩
end
theorem wrap64_nat {n : Nat} (h : n < 9223372036854775808) : IntKind.i64.wrap (n : Int) = n := IntWalk.i64_in _ (by omega)
theorem wrap64_succ {n : Nat} (h : n < 9223372036854775807) : IntKind.i64.wrap ((n : Int) + 1) = ((n + 1 : Nat) : Int) := by
  have := wrap64_nat (n := n + 1) (by omega)
  simpa using this
theorem lk_succ {σ : Env} {t j : Nat} (h : lks σ t = some (.int .i64 (IntKind.i64.wrap ((j : Int) + 1)))) (hj : j < 9223372036854775807) : lks σ t = some (.int .i64 ((j + 1 : Nat) : Int)) := by rw [h, wrap64_succ hj]
theorem run_sub' {P : Program} {C : Cx} {n : Nat} {k : List Item} {ds : List Deferred} {σ σ' : Env} {M : Mem} {L : HL} (h : Run P C n k ds σ' M L) (hs : subE σ σ') : Run P C n k ds σ M L := run_sub σ' hs h
theorem st_makeMapE {κ : Type} (enc : κ → Value) {P : Program} {ro : Option Nat} {σ : Env} {δ : Den} {cur : Path} {M : Mem} {L : HL} {d : Option Nat} {ty : TypeId} {pos : String} {aft : Array Edge} {g : Option (Nat × Bool)} {t : TypeId} : St P ro ⟨d, .makeMap t none, ty, pos, aft, g⟩ σ δ cur M L (fun v' M' L' => ∃ b, v' = .map (some b) ∧ M = M' ∧ L' = (b, .map ⟨ents enc []⟩ 0) :: L) := st_makeMap
theorem Hp.freeze1 {M : Mem} {L : HL} {w : World} {b : Nat} {o : Obj} (h : Hp M ((b, o) :: L) w) : ∃ M', M.le M' ∧ M'.blk b = some o ∧ Hp M' L w := ⟨M.add b o, Mem.add_le h.apart_head, Mem.add_self M b o, h.freeze⟩
theorem qt_lookupG {κ : Type} [DecidableEq κ] {enc : κ → Value} {P : Program} {T : TT} {ro : Option Nat} {σ : Env} {δ : Den} {cur : Path} {M : Mem} {L : HL} {d : Option Nat} {ty : TypeId} {pos : String} {aft : Array Edge} {g : Option (Nat × Bool)} {kt : TypeId} (hT : TOk P T) (hk : KeyLaw P kt enc) {t : TypeId} {x y : Operand} {b : Nat} {ok : Bool} {et : TypeId} {z kv : Value} {a : κ} {es : KV κ} {clock : Nat} {r : Option Value}
    (hu : und T t = some (.map kt et)) (hx : ev σ δ cur x = some (.map (some b))) (hy : ev σ δ cur y = some kv) (he : kv = enc a) (hb : Blk M L b (.map ⟨ents enc es⟩ clock)) (hz : zeroT T et = some z) (hr : kvGet es a = r) :
    Qt P ro ⟨d, .lookup t x y ok, ty, pos, aft, g⟩ σ δ cur M L (lookRes ok r z) := hr ▸ qt_lookup hT hk hu hx hy he hb hz
theorem run_loopN {P : Program} {C : Cx} {n : Nat} {c : Code} {k : List Item} {ds : List Deferred} {σ : Env} {M : Mem} {L : HL} (S : Nat → Env → Mem → HL → Prop) (N : Nat) (σ0 : Env) (hσ : subE σ σ0) (h0 : S 0 σ0 M L) (bound : ∀ j σ1 M1 L1, S j σ1 M1 L1 → j ≤ N)
    (step : ∀ j σ1 M1 L1, S j σ1 M1 L1 → (∀ σ2 M2 L2, S (j + 1) σ2 M2 L2 → Run P C n (.inLoop c :: k) ds σ2 M2 L2) → Run P C n (.code c :: .inLoop c :: k) ds σ1 M1 L1) : Run P C n (.code (.loop c) :: k) ds σ M L := by
  have key : ∀ m j, N - j = m → ∀ σ1 M1 L1, S j σ1 M1 L1 → Run P C n (.code c :: .inLoop c :: k) ds σ1 M1 L1 := by
    intro m
    induction m with
    | zero =>
      intro j hj σ1 M1 L1 h
      refine step j σ1 M1 L1 h fun σ2 M2 L2 h2 => ?_
      have := bound _ _ _ _ h2
      omega
    | succ m ih =>
      intro j hj σ1 M1 L1 h
      exact step j σ1 M1 L1 h fun σ2 M2 L2 h2 => run_inLoop (ih (j + 1) (by omega) σ2 M2 L2 h2)
  exact run_sub σ0 hσ (run_loop (key _ 0 rfl σ0 M L h0))
def dn : Nat → List Nat
  | 0 => []
  | n + 1 => n :: dn n
section
variable {P : Program} {C : Cx} {n : Nat} {k : List Item} {ds : List Deferred} {σ : Env} {δ : Den} {M : Mem} {L : HL} {ops : Array Oper} {X : List Nat}
theorem prn_start {id : Nat} (hm : P.follows .mixedOrders = true) (h : PR P C n ops k ds (dn 0) [] σ [] M L) : Run P C n (.code (.region id ops true) :: k) ds σ M L := run_draw hm h
theorem prn_q {i d : Nat} {op : Op} {ty : TypeId} {pos : String} {aft : Array Edge} {v : Value} (ho : ops[i]? = some ⟨some d, op, ty, pos, aft, none⟩)
    (hq : Qt P C.b.roundOf ⟨some d, op, ty, pos, aft, none⟩ σ δ [] M L v) (hchk : chkQ ops (dn i) i = true) (hd : Nat.blt d n = true) (hn : lkd δ d = none) (hu : unNamed δ d = true)
    (h : PR P C n ops k ds (dn (i + 1)) X ((d, v) :: σ) δ M L) : PR P C n ops k ds (dn i) X σ δ M L := pr_q i hchk ho hq hd hn hu h
theorem prn_end {i : Nat} (hac : (acyc ops && (List.range ops.size).all (memN (dn i))) = true) (h : Run P C n k ds σ M L) : PR P C n ops k ds (dn i) X σ δ M L := by
  rw [Bool.and_eq_true] at hac
  exact pr_end hac.1 hac.2 h
theorem eff0 (e : Nat) {D : List Nat} {op : Op} {ty : TypeId} {pos : String} {aft : Array Edge} {K : Value → Mem → HL → Prop} {qs : List Nat} (ho : ops[e]? = some ⟨none, op, ty, pos, aft, none⟩)
    (hst : St P C.b.roundOf ⟨none, op, ty, pos, aft, none⟩ σ δ [] M L K) (hchk : chkE1 ops D e = true) (hop : open_ ops D X e = qs)
    (h : ∀ v M' L', K v M' L' → PendAll P C.b.roundOf ops σ δ M' L' qs ∧ PR P C n ops k ds (e :: D) (e :: X) σ δ M' L') : chkE1 ops D e = true ∧ EffOk P C n ops k ds D X σ δ M L e :=
  ⟨hchk, none, op, ty, pos, aft, K, fun _ => σ, none, rfl, ho, hst, fun _ _ _ hs => hs,
   fun v M' L' hK q hq a ha _ => (h v M' L' hK).1.mem q (by rw [← hop]; exact hq) a ha, fun v M' L' hK => (h v M' L' hK).2⟩
theorem pr_one {D : List Nat} (e : Nat) (hac : (acyc ops && chkC ops D [e]) = true) (h : chkE1 ops D e = true ∧ EffOk P C n ops k ds D X σ δ M L e) : PR P C n ops k ds D X σ δ M L := by
  rw [Bool.and_eq_true] at hac
  exact pr_es [e] hac.1 hac.2 (by simp) fun x hx => by obtain rfl : x = e := by simpa using hx
                                                       exact h
theorem prn_e1 {i d : Nat} {op : Op} {ty : TypeId} {pos : String} {aft : Array Edge} {K : Value → Mem → HL → Prop} (ho : ops[i]? = some ⟨some d, op, ty, pos, aft, none⟩)
    (hst : St P C.b.roundOf ⟨some d, op, ty, pos, aft, none⟩ σ δ [] M L K) (hchk : (chkE ops (dn i) i && acyc ops && (open_ ops (dn i) X i).isEmpty) = true) (hd : Nat.blt d n = true) (hn : lkd δ d = none) (hu : unNamed δ d = true)
    (h : ∀ v M' L', K v M' L' → PR P C n ops k ds (dn (i + 1)) (i :: X) ((d, v) :: σ) δ M' L') : PR P C n ops k ds (dn i) X σ δ M L := by
  rw [Bool.and_eq_true, Bool.and_eq_true] at hchk
  refine pr_e i (σ' := fun v => (d, v) :: σ) hchk.1.1 hchk.1.2 ho hst (fun a v hs hse => hse.put (by rw [hs]; exact Nat.blt_eq.mp hd) hn hu v) (fun _ _ _ _ q hq => ?_) h
  rw [List.isEmpty_iff.1 hchk.2] at hq; cases hq
end
end Go.Chi
namespace Go.Chi
section
variable {P : Program} {T : TT} {ro : Option Nat} {σ : Env} {δ : Den} {cur : Path} {M : Mem} {L : HL} {d : Option Nat} {op : Op} {ty : TypeId} {pos : String} {aft : Array Edge} {g : Option (Nat × Bool)} {v : Value}
end
end Go.Chi
namespace Go.Chi
end Go.Chi
namespace Go.Chi
end Go.Chi
namespace Go.Chi
section
variable {P : Program} {C : Cx} {n : Nat} {k : List Item} {ds : List Deferred} {σ : Env} {δ : Den} {M : Mem} {L : HL} {ops : Array Oper} {X : List Nat}
theorem prn_o0 {i : Nat} {op : Op} {ty : TypeId} {pos : String} {aft : Array Edge} {K : Value → Mem → HL → Prop} (ho : ops[i]? = some ⟨none, op, ty, pos, aft, none⟩)
    (hst : St P C.b.roundOf ⟨none, op, ty, pos, aft, none⟩ σ δ [] M L K) (hchk : (acyc ops && chkC ops (dn i) [i] && chkE1 ops (dn i) i) = true)
    (h : ∀ v M' L', K v M' L' → PendAll P C.b.roundOf ops σ δ M' L' (open_ ops (dn i) X i) ∧ PR P C n ops k ds (dn (i + 1)) (i :: X) σ δ M' L') : PR P C n ops k ds (dn i) X σ δ M L := by
  rw [Bool.and_eq_true] at hchk
  exact pr_one i hchk.1 (eff0 i ho hst hchk.2 rfl h)
end
end Go.Chi
namespace Go.Chi
section
variable {P : Program} {T : TT} {ro : Option Nat} {σ : Env} {δ : Den} {cur : Path} {M : Mem} {L : HL} {d : Option Nat} {op : Op} {ty : TypeId} {pos : String} {aft : Array Edge} {g : Option (Nat × Bool)} {v : Value}
theorem ql (hT : TOk P T) {t : TypeId} {x : Operand} {b off : Nat} {cs : List Value} {et : TypeId} {fz : Nat × Nat} (hx : ev σ δ cur x = some (.pointer (some ⟨b, off, none⟩))) (hm : (b, Obj.cells ⟨cs⟩ et fz) ∈ L := by (repeat (first | with_reducible apply List.mem_cons_self | with_reducible assumption | with_reducible apply List.mem_cons_of_mem | with_reducible apply List.mem_append_right))) (hv : ldE T t cs off = some v := by rfl) :
    Qt P ro ⟨d, .load t x, ty, pos, aft, g⟩ σ δ cur M L v := qt_ld hT hx hm hv
theorem sst (hT : TOk P T) {t : TypeId} {x y : Operand} {b off s : Nat} {cs cs' : List Value} {et : TypeId} {L' : HL}
    (hx : ev σ δ cur x = some (.pointer (some ⟨b, off, none⟩))) (hy : ev σ δ cur y = some v) (hi : sizeT T t = some s) (hl : (cellsL v).length = s) (h1 : oneL (cellsL v) = true)
    (hu : Upd L b (.cells ⟨cs⟩ et (0, 0)) (.cells ⟨cs'⟩ et (0, 0)) L' := by (repeat (first | with_reducible apply Upd.here | with_reducible apply Upd.there | with_reducible apply Upd.append_left))) (hcs : setE cs off (cellsL v) = some cs' := by rfl) :
    St P ro ⟨d, .store t x y, ty, pos, aft, g⟩ σ δ cur M L (fun v' M' L'' => v' = undef ∧ M = M' ∧ L'' = L') := st_store hT hx hy hi hl h1 hu hcs
end
theorem rl {P : Program} {T : TT} {σ : Env} {M : Mem} {L : HL} {a b off t : Nat} {v : Value} {rs : List ResultVar} {vs : List Value} (hT : TOk P T) {cs : List Value} {et : TypeId} {fz : Nat × Nat} (h : lks σ a = some (.pointer (some ⟨b, off, none⟩))) (r : ResOk P M L σ rs vs) (hm : (b, Obj.cells ⟨cs⟩ et fz) ∈ L := by (repeat (first | with_reducible apply List.mem_cons_self | with_reducible assumption | with_reducible apply List.mem_cons_of_mem | with_reducible apply List.mem_append_right))) (hv : ldE T t cs off = some v := by rfl) : ResOk P M L σ (.cell a t :: rs) (v :: vs) := resL hT h hm hv r
end Go.Chi
namespace Go.Chi
section
variable {P : Program} {C : Cx} {n : Nat} {k : List Item} {ds : List Deferred} {σ : Env} {δ : Den} {M : Mem} {L : HL} {ops : Array Oper} {X : List Nat}
theorem pe {i d : Nat} {op : Op} {ty : TypeId} {pos : String} {aft : Array Edge} {K : Value → Mem → HL → Prop} (ho : ops[i]? = some ⟨some d, op, ty, pos, aft, none⟩)
    (hst : St P C.b.roundOf ⟨some d, op, ty, pos, aft, none⟩ σ δ [] M L K)
    (h : ∀ v M' L', K v M' L' → PR P C n ops k ds (dn (i + 1)) (i :: X) ((d, v) :: σ) δ M' L')
    (hchk : (chkE ops (dn i) i && acyc ops && (open_ ops (dn i) X i).isEmpty) = true := by decide +kernel) (hd : Nat.blt d n = true := by exact rfl) (hn : lkd δ d = none := by exact rfl) (hu : unNamed δ d = true := by exact rfl) : PR P C n ops k ds (dn i) X σ δ M L := prn_e1 ho hst hchk hd hn hu h
end
abbrev zS := @run_seq
abbrev zR := @run_region
abbrev zN := @runL_nil
abbrev zK := @run_skip
abbrev zB := @run_block
abbrev zI := @run_inBlock
abbrev zE := @run_exit
end Go.Chi
namespace Go.Chi
def subA (size : Nat) (a : Option Addr) (cap l : Nat) : Option Addr := if cap = l then a else a.map (·.add (l * size))
section
variable {P : Program} {T : TT} {ro : Option Nat} {σ : Env} {δ : Den} {cur : Path} {M : Mem} {L : HL} {d : Option Nat} {op : Op} {ty : TypeId} {pos : String} {aft : Array Edge} {g : Option (Nat × Bool)} {v : Value}
theorem qt_sliceLo (hT : TOk P T) {t : TypeId} {x y : Operand} {a : Option Addr} {len cap : Nat} {k : IntKind} {n : Nat} {e s : Nat}
    (hx : ev σ δ cur x = some (.slice a len cap)) (hy : ev σ δ cur y = some (.int k (n : Int))) (hu : und T t = some (.slice e)) (hi : sizeT T e = some s) (hb : Hy σ δ cur → n ≤ len) :
    Qt P ro ⟨d, .slice t x (some y) none none, ty, pos, aft, g⟩ σ δ cur M L (.slice (subA s a cap n) (len - n) (cap - n)) :=
  qt_of_run (semAt_of (by intro c e; cases e)) fun act w hs hcur hp => by
    have h := hb (Hy_of hs hcur)
    simp [execOp, Instr.sliceAt, Instr.slice, Instr.sliceBounds, Instr.sliceBound, ev_sound hs hcur hx, ev_sound hs hcur hy, asIntOf, run_und hT hu, run_sizeT hT hi, h, subA]
end
end Go.Chi
namespace Go.Chi
open Go.ChangeShapes Go.WideShapes Go.RowKit
def memOf (W : World) : Mem := ⟨fun b => W.heap[b]?, W.os, W.output, W.tape⟩
theorem hp_memOf (W : World) : Hp (memOf W) [] W := ⟨rfl, rfl, rfl, fun _ _ h => h, (fun _ h => by cases h), by simp, fun _ h => by cases h⟩
structure Keeps (W W' : World) : Prop where
  os : W'.os = W.os
  out : W'.output = W.output
  blk : ∀ b, b < W.heap.size → W'.heap[b]? = W.heap[b]?
theorem keeps_of {W W' : World} {M : Mem} {L : HL} (h : Hp M L W') (hle : (memOf W).le M) : Keeps W W' :=
  ⟨h.os.trans hle.os, h.out.trans hle.out, fun b hb => by
    have := Array.getElem?_eq_getElem hb
    rw [this]
    exact h.blk b _ (hle.blk b _ this)⟩
theorem Keeps.same {W W' : World} (h : Keeps W W') {p : MemPlace} (hp : p.block < W.heap.size) : W.sameAt W' p := by
  cases p with
  | cell b off =>
    show W'.cell? ⟨b, off, none⟩ = W.cell? ⟨b, off, none⟩
    simp only [World.cell?, h.blk b hp]
  | map b => exact h.blk b hp
theorem Keeps.kept {W W' : World} (h : Keeps W W') (may : MemPlace → Prop) : W.keptBut W' may := by
  refine ⟨h.os, h.out, fun i hi => ?_⟩
  rw [h.blk i hi]
  have hs := Array.getElem?_eq_getElem hi
  rw [hs]
  cases W.heap[i] <;> simp
section
variable {H : Type} {enc : TypeId × Value → H} {P : Program} {W W' : World}
theorem trodAll_keep (hl : laidOutB P = true) (hk : Keeps W W') {sp : Nat → Bool} : ∀ {ts : List TypeId} {vs : List Value} {ds : List (DataW H)} {ps : List MemPlace}, (∀ t ∈ ts, P.readableRec t = true ∧ t < P.types.size) → DataW.TrodAll enc P W 0 (fun _ => true) true ts vs ds ps → (∀ p ∈ ps, p.block < W.heap.size) → (∀ p ∈ ps, sp p.block = true) → DataW.TrodAll enc P W' 0 sp true ts vs ds ps
  | [], _, _, _, _, h, _, _ => by
    obtain ⟨rfl, rfl, rfl⟩ := trodAll_nil h
    rfl
  | t :: ts, _, _, _, hr, h, hlt, hsp => by
    obtain ⟨v, vs1, d, ds1, a, b, rfl, rfl, rfl, ⟨n, h1⟩, h2⟩ := trodAll_cons h
    have ht := hr t List.mem_cons_self
    exact ⟨a, b, ⟨n, DataW.trod_stays (kids_book hl ht.1) (fun ht' hu => book_sized ht.1 ht' hu) (by intro e; cases e) (t := t) ⟨ht.2, book_self t⟩ h1 (fun p hp => hk.same (hlt p (List.mem_append_left _ hp))) (fun p hp => hsp p (List.mem_append_left _ hp))⟩,
      trodAll_keep hl hk (fun t ht => hr t (List.mem_cons_of_mem _ ht)) h2 (fun p hp => hlt p (List.mem_append_right _ hp)) (fun p hp => hsp p (List.mem_append_right _ hp)), rfl⟩
theorem law_post {f : Func} {s : ChangeSpec} {apart fresh handsOn again : Bool} {args : Array Value} {ds gs : List (DataW H)} {before : List MemPlace} {tb : TypeId}
    (hW : DataW.Whole enc P f.params.toList s.vars apart W args.toList ds gs before) (hv : s.vars = []) (hfn : s.fn H ds = { results := [.lit (.bool true)], args := ds })
    (hres : f.resultTypes = #[tb]) (hb : P.underlying tb = some .bool) (hl : laidOutB P = true) (hr : ∀ t ∈ f.params.toList, P.readableRec t = true ∧ t < P.types.size) (hk : Keeps W W') :
    s.post enc P f apart fresh handsOn again W args (.bool true) W' := by
  have hW' := hW
  obtain ⟨p, q, hA, hV, rfl, hz, hn⟩ := hW
  rw [hv] at hV
  obtain ⟨rfl, rfl⟩ := trodVars_none hV
  simp only [List.append_nil] at hW' hz hn ⊢
  have hlt : ∀ x ∈ p, x.block < W.heap.size := fun x hx => hW'.lt x hx
  have hold : ∀ x ∈ p, (fun b => decide (b < W.heap.size)) x.block = true := fun x hx => by simpa using hlt x hx
  have hR : ∀ (b : Nat) (sp : Nat → Bool) (hd : Bool), DataW.TrodAll enc P W' b sp hd f.resultTypes.toList ((Value.bool true).resultList f.resultTypes.size) (s.fn H (ds ++ [])).results [] := fun b sp hd => by
    rw [List.append_nil, hfn, hres]
    exact trodAll_mk1 (shut_bool hb _)
  have hargs : ∀ sp : Nat → Bool, (∀ x ∈ p, sp x.block = true) → DataW.TrodAll enc P W' 0 sp true f.params.toList args.toList (s.fn H (ds ++ [])).args p := fun sp hsp => by
    rw [List.append_nil, hfn]
    exact trodAll_keep hl hk hr hA hlt hsp
  have hvars : ∀ sp : Nat → Bool, DataW.TrodVars enc P W' sp s.vars (s.fn H (ds ++ [])).vars [] := fun sp => by
    rw [List.append_nil, hfn, hv]
    rfl
  refine ⟨ds, [], p, [], p, [], hW', hR _ _ _, hargs _ hold, hvars _, World.keptBut_mono (fun x hx => ⟨hx, Or.inr (by simpa using hx)⟩) (hk.kept (· ∈ p)), fun _ => ?_⟩
  refine ⟨?_, _, _, ([] ++ p) ++ [], ⟨[] ++ p, [], trodAll_append (hargs _ (fun _ _ => rfl)) (hR _ _ _), hvars _, rfl, ?_, ?_⟩, ?_⟩
  · rw [hres]
    intro j t r h1 h2
    match j, h1, h2 with
    | 0, h1, h2 =>
      simp at h1
      subst h1
      have : r = .bool true := by simpa [Value.resultList] using h2.symm
      subst this
      exact okWide_bool_mk hb _
    | j + 1, h1, h2 => simp at h1
  · intro b off hp
    have hp' : MemPlace.cell b off ∈ p := by simpa using hp
    have h1 := hz b off hp'
    have h2 := hk.blk b (hlt _ hp')
    simp only [World.frozen?, h2] at h1 ⊢
    exact h1
  · intro ha
    simpa using hn ha
  · intro x hx _
    simpa using hx
theorem law_calls {f : FuncId} {fn : Func} {s : ChangeSpec} {apart fresh handsOn again : Bool} {args : Array Value} {ds gs : List (DataW H)} {before : List MemPlace} {tb : TypeId}
    (hW : DataW.Whole enc P fn.params.toList s.vars apart W args.toList ds gs before) (hv : s.vars = []) (hfn : s.fn H ds = { results := [.lit (.bool true)], args := ds })
    (hres : fn.resultTypes = #[tb]) (hb : P.underlying tb = some .bool) (hl : laidOutB P = true) (hr : ∀ t ∈ fn.params.toList, P.readableRec t = true ∧ t < P.types.size)
    (h : Tr P f args.toList (memOf W) [] (fun v M' _ => v = .bool true ∧ (memOf W).le M')) :
    Calls P f args W fun e W' => ∃ v, e = .returned v ∧ s.post enc P fn apart fresh handsOn again W args v W' := by
  refine (h.2 W (hp_memOf W)).calls.mono fun e W' => ?_
  rintro ⟨v, rfl, M', L', hp, rfl, hle⟩
  exact ⟨_, rfl, law_post hW hv hfn hres hb hl hr (keeps_of hp hle)⟩
end
section
variable {H : Type}
def RD (enc : TypeId × Value → H) (P : Program) (W : World) (t : TypeId) (cs : List Value) : Prop := ∃ n x, DataW.trod enc P W 0 (fun _ => true) true n t cs = some x
def RDs (enc : TypeId × Value → H) (P : Program) (W : World) : List TypeId → List Value → Prop
  | [], cs => cs = []
  | t :: ts, cs => ∃ a b, cs = a ++ b ∧ RD enc P W t a ∧ RDs enc P W ts b
variable {enc : TypeId × Value → H} {P : Program} {W : World} {t : TypeId} {cs : List Value}
theorem RD.int (h : RD enc P W t cs) {k : IntKind} (hu : P.underlying t = some (.int k)) : ∃ n, cs = [.int k n] ∧ (Lit.int k n).wf = true := by
  obtain ⟨m, x, h⟩ := h
  obtain ⟨n, h1, _, h2⟩ := DataW.trod_int hu h
  exact ⟨n, h1, h2⟩
theorem RD.bool (h : RD enc P W t cs) (hu : P.underlying t = some .bool) : ∃ n, cs = [.bool n] := by
  obtain ⟨m, x, h⟩ := h
  obtain ⟨n, h1, _⟩ := DataW.trod_bool hu h
  exact ⟨n, h1⟩
theorem RD.string (h : RD enc P W t cs) (hu : P.underlying t = some .string) : ∃ s : ByteArray, cs = [.string s] ∧ s.size ≤ maxLen := by
  obtain ⟨m, x, h⟩ := h
  obtain ⟨n, h1, _, h2⟩ := DataW.trod_string hu h
  exact ⟨n, h1, h2⟩
def offsOk (P : Program) : Nat → List Field → Bool
  | _, [] => true
  | o, f :: fs => Nat.beq f.offset o && offsOk P (o + P.cellsOf f.type) fs
def sumOf (P : Program) (fs : List Field) : Nat := (fs.map fun f => P.cellsOf f.type).sum
theorem RD.struct (h : RD enc P W t cs) {fs : Array Field} (hu : P.underlying t = some (.struct fs)) (ho : (offsOk P 0 fs.toList && Nat.beq (sumOf P fs.toList) (P.cellsOf t)) = true) : RDs enc P W (fs.toList.map (·.type)) cs := by
  obtain ⟨m, x, h⟩ := h
  obtain ⟨xs, n, _, _, hl, hxl, hf⟩ := DataW.trod_struct hu h
  rw [Bool.and_eq_true] at ho
  have hsum := Nat.eq_of_beq_eq_true ho.2
  have key : ∀ (gs : List Field) (i o : Nat) (rest : List Value), fs.toList.drop i = gs → offsOk P o gs = true → cs.drop o = rest → rest.length = sumOf P gs → RDs enc P W (gs.map (·.type)) rest := by
    intro gs
    induction gs with
    | nil => intro i o rest _ _ _ hlen; exact List.length_eq_zero_iff.1 (by simpa [sumOf] using hlen)
    | cons f gs ih =>
      intro i o rest hdrop hoff hrest hlen
      simp only [offsOk, Bool.and_eq_true] at hoff
      have hfo := Nat.eq_of_beq_eq_true hoff.1
      have hget : fs[i]? = some f := by
        have := congrArg (fun l => l[0]?) hdrop
        simpa using this
      have hr := hf i f hget
      have hi : i < xs.length := by rw [hxl]; exact (Array.getElem?_eq_some_iff.1 hget).1
      rw [List.getElem?_eq_getElem hi, hfo, hrest] at hr
      refine ⟨rest.take (P.cellsOf f.type), rest.drop (P.cellsOf f.type), (List.take_append_drop _ _).symm, ⟨n, _, hr⟩, ?_⟩
      refine ih (i + 1) (o + P.cellsOf f.type) _ ?_ hoff.2 ?_ ?_
      · rw [← List.drop_drop, hdrop]; rfl
      · rw [← hrest, List.drop_drop]
      · simp only [sumOf, List.map_cons, List.sum_cons] at hlen
        rw [List.length_drop, hlen]
        simp [sumOf]
  exact key fs.toList 0 0 cs rfl ho.1 rfl (by rw [hl, hsum])
theorem RD.slice (h : RD enc P W t cs) {e : TypeId} {size : Nat} (hu : P.underlying t = some (.slice e)) (hC : P.cellsOf e = size) (hpos : 0 < size) :
    ∃ a len cap ls, cs = [.slice a len cap] ∧ len ≤ cap ∧ cap ≤ maxLen ∧ SlM (memOf W) size a len ls ∧ ∀ c ∈ ls, RD enc P W e c := by
  obtain ⟨m, x, h⟩ := h
  rcases Go.Deep.open_slice hu h with ⟨rfl, _⟩ | ⟨a, len, cap, m', n, D, Pl, rfl, _, hlc, hmx, hm', _, hel⟩
  · exact ⟨none, 0, 0, [], rfl, Nat.le_refl _, Nat.zero_le _, SlM.nil _ _ _, fun c hc => by cases hc⟩
  · simp only [if_true] at hm'
    have hch : ∀ i, ∃ c, i < len → (W.cells? 0 (a.add (i * size)) size = some c ∧ RD enc P W e c) := fun i => by
      by_cases hi : i < len
      · obtain ⟨c, h1, h2⟩ := hel i (by omega)
        rw [hC] at h1
        exact ⟨c, fun _ => ⟨h1, n, _, h2⟩⟩
      · exact ⟨[], fun h => absurd h hi⟩
    obtain ⟨F, hF⟩ := Classical.axiomOfChoice hch
    refine ⟨some a, len, cap, (List.range len).map F, rfl, hlc, hmx, ⟨by simp, fun l hl => ?_, ?_⟩, fun c hc => ?_⟩
    · obtain ⟨i, hi, rfl⟩ := List.mem_map.1 hl
      exact (World.cells?_some (hF i (List.mem_range.1 hi)).1).2.1
    · by_cases h0 : len = 0
      · left; simp [h0]
      · right
        have hspot : a.spot = none := by
          have h1 := (World.cells?_some (hF 0 (by omega)).1).2.2 0 hpos
          have hlen0 := (World.cells?_some (hF 0 (by omega)).1).2.1
          simp only [Nat.zero_mul] at h1
          have hs : (F 0)[0]? = some ((F 0)[0]'(by omega)) := List.getElem?_eq_getElem (by omega)
          rw [hs] at h1
          have ha0 : (a.add 0).add 0 = a := by simp [Addr.add]
          rw [ha0] at h1
          unfold World.cell? at h1
          split at h1
          · split at h1
            · cases h1
            · rename_i hsp; cases h2 : a.spot with
              | none => rfl
              | some v => simp [h2] at hsp
          · cases h1
        obtain ⟨ab, ao, asp⟩ := a
        simp only at hspot
        subst hspot
        refine ⟨ab, ao, rfl, fun i c hc => ?_⟩
        have hi : i < len := by
          have := (List.getElem?_eq_some_iff.1 hc).1
          simpa using this
        have hci : c = F i := by
          have : ((List.range len).map F)[i]? = some (F i) := by simp [hi]
          rw [this] at hc
          exact (Option.some.inj hc).symm
        subst hci
        obtain ⟨_, hlen, hcell⟩ := World.cells?_some (hF i hi).1
        have hbase : ∀ j, j < size → W.cell? ⟨ab, ao + i * size + j, none⟩ = (F i)[j]? := fun j hj => by
          have := hcell j hj
          rw [add_none, add_none] at this
          exact this
        have hb : ∃ cells ty fz, W.heap[ab]? = some (.cells cells ty fz) := by
          have h1 := hbase 0 hpos
          rw [List.getElem?_eq_getElem (by omega)] at h1
          unfold World.cell? at h1
          split at h1
          · rename_i c1 t1 f1 he; exact ⟨c1, t1, f1, he⟩
          · cases h1
        obtain ⟨cells, ty, fz, hb⟩ := hb
        refine ⟨cells, ty, fz, .inr hb, fun j v hv => ?_⟩
        have hj : j < size := by have := (List.getElem?_eq_some_iff.1 hv).1; omega
        have := hbase j hj
        rw [hv] at this
        simpa [World.cell?, hb] using this
    · obtain ⟨i, hi, rfl⟩ := List.mem_map.1 hc
      exact (hF i (List.mem_range.1 hi)).2
end
end Go.Chi
namespace Go.Chi
section
variable {P : Program} {C : Cx} {n : Nat} {k : List Item} {ds : List Deferred} {σ : Env} {δ : Den} {M : Mem} {L : HL} {ops : Array Oper} {D X : List Nat}
theorem Sees.known {a : Act} (h : Sees σ δ a) {s : Nat} {b c : Bool} (hs : lks σ s = some (.bool c)) (hc : c = b) : Sees ((s, .bool b) :: σ) δ a :=
  ⟨fun t v e => by
    rw [lks_cons] at e
    split at e
    · rename_i he; cases e; subst he; subst hc; exact h.s _ _ hs
    · exact h.s _ _ e, h.d⟩
theorem Sees.asV {a : Act} (h : Sees σ δ a) {s : Nat} {u v : Value} (hs : lks σ s = some u) (hc : u = v) : Sees ((s, v) :: σ) δ a :=
  ⟨fun t v e => by
    rw [lks_cons] at e
    split at e
    · rename_i he; cases e; subst he; subst hc; exact h.s _ _ hs
    · exact h.s _ _ e, h.d⟩
theorem pr_as (s : Nat) (v : Value) {u : Value} (hs : lks σ s = some u) (hc : u = v) (h : PR P C n ops k ds D X ((s, v) :: σ) δ M L) : PR P C n ops k ds D X σ δ M L :=
  fun a â w listed fuel t hst => h a â w listed fuel t { hst with sees := hst.sees.asV hs hc }
theorem runL_as {l : List Oper} (s : Nat) (v : Value) {u : Value} (hs : lks σ s = some u) (hc : u = v) (h : RunL P C n ops l k ds ((s, v) :: σ) δ M L) : RunL P C n ops l k ds σ δ M L :=
  fun a w idx h1 h2 h3 h4 h5 => h a w idx h1 h2 (h3.asV hs hc) h4 h5
theorem run_as (s : Nat) (v : Value) {u : Value} (hs : lks σ s = some u) (hc : u = v) (h : Run P C n k ds ((s, v) :: σ) M L) : Run P C n k ds σ M L :=
  fun a w h1 h2 h3 h4 => h a w h1 h2 (h3.asV hs hc) h4
theorem pr_gK (i : Nat) {d : Nat} {op : Op} {ty : TypeId} {pos : String} {aft : Array Edge} {v : Value} {j s : Nat} {want : Bool} (hchk : chkQ ops D i = true) (ho : ops[i]? = some ⟨some d, op, ty, pos, aft, some (j, want)⟩)
    (hj : slotOf ops j = some s) (hg : knows σ s want = true)
    (hq : Qt P C.b.roundOf ⟨some d, op, ty, pos, aft, some (j, want)⟩ σ δ [] M L v) (hd : Nat.blt d n = true) (hn : lkd δ d = none) (hu : unNamed δ d = true)
    (h : PR P C n ops k ds (i :: D) X ((d, v) :: σ) δ M L) : PR P C n ops k ds D X σ δ M L := fun a â w listed fuel t hst => by
  have hsl : slotOf ops i = some d := by rw [slot_of ho]
  have hd' := Nat.blt_eq.mp hd
  have hdn : d < â.tmps.size := by rw [hst.hn]; exact hd'
  obtain ⟨hpl, hself⟩ := chkQ_parts hchk hsl
  have hlk : looks ops i = Oper.looksAt ops ⟨some d, op, ty, pos, aft, some (j, want)⟩ := by unfold looks; rw [ho]
  have hpl' : plainOp op = true := by unfold plainAt at hpl; rw [ho] at hpl; exact hpl
  have hw := knows_sound hst.sees hg
  have hag := self_agree (ops := ops) (i := i) hdn hself v
  have hwant : Region.wanted ⟨some d, op, ty, pos, aft, some (j, want)⟩ (yielded ops (â.put (some d) v).tmps) = true := by
    rw [wanted_agree (ops := ops) (a' := â) (by rw [← hlk]; exact hag)]
    simp only [Region.wanted]; exact beq_some_bool.2 ((yielded_some hj).2 hw)
  refine h a (â.put (some d) v) w listed fuel t (hst.add hchk hsl hd' (hst.sees.put hdn hn hu v) ?_)
  refine ⟨_, d, ho, rfl, hpl', fun _ => ⟨v, by rw [put_get hdn, if_pos rfl], fun w' hw' => ?_⟩, fun hx => by rw [hwant] at hx; cases hx⟩
  have := hq â w' hst.sees (holds_nil _) hw'
  have := this.mono (K' := fun u w' => u = v ∧ Hp M L w') fun u w'' ⟨M', L', h1, h2, h3, h4⟩ => ⟨h2, by subst h3 h4; exact h1⟩
  unfold OpWp at this ⊢
  rw [sem_agree (ops := ops) (a := â.put (some d) v) (a' := â) hpl' (by rw [← hlk]; exact hag)]
  exact this
theorem runL_gK {d : Nat} {op : Op} {ty : TypeId} {pos : String} {aft : Array Edge} {l : List Oper} {v : Value} {j s : Nat} {want : Bool}
    (hj : slotOf ops j = some s) (hg : knows σ s want = true)
    (hst : Qt P C.b.roundOf ⟨some d, op, ty, pos, aft, some (j, want)⟩ σ δ [] M L v) (hd : Nat.blt d n = true) (hn : lkd δ d = none) (hu : unNamed δ d = true)
    (h : RunL P C n ops l k ds ((d, v) :: σ) δ M L) : RunL P C n ops (⟨some d, op, ty, pos, aft, some (j, want)⟩ :: l) k ds σ δ M L :=
  runL_gT hj hg hst hd hn hu fun v' M' L' ⟨e1, e2, e3⟩ => by subst e1 e2 e3; exact h
end
end Go.Chi
namespace Go.Chi
structure Tx where
  coord : Int
  epoch : Int
  seq : Int
theorem Tx.ext_iff' (a b : Tx) : (a.coord = b.coord ∧ a.epoch = b.epoch ∧ a.seq = b.seq) ↔ a = b := by cases a; cases b; simp
instance : DecidableEq Tx := fun a b => decidable_of_iff _ (Tx.ext_iff' a b)
structure Mb where
  org : Int
  digest : ByteArray
theorem Mb.ext_iff' (a b : Mb) : (a.org = b.org ∧ a.digest = b.digest) ↔ a = b := by cases a; cases b; simp
instance : DecidableEq Mb := fun a b => decidable_of_iff _ (Mb.ext_iff' a b)
structure SMb where
  a : Option Addr
  len : Nat
  cap : Nat
  xs : List Mb
def SMb.v (s : SMb) : Value := .slice s.a s.len s.cap
structure SStr where
  a : Option Addr
  len : Nat
  cap : Nat
  xs : List ByteArray
def SStr.v (s : SStr) : Value := .slice s.a s.len s.cap
structure Rc where
  kind : Int
  epoch : Int
  txn : Tx
  yes : Bool
  auditor : Int
  mem : SMb
  tags : SStr
  body : ByteArray
structure Rp where
  txn : Tx
  auditor : Int
  mem : SMb
  tags : SStr
structure Ev where
  kind : Int
  act : Int
  org : Int
  txn : Tx
  rcd : Rc
  rcpt : Rp
structure SEv where
  a : Option Addr
  len : Nat
  cap : Nat
  xs : List Ev
def SEv.v (s : SEv) : Value := .slice s.a s.len s.cap
end Go.Chi
namespace Go.Proofs.YtehlgbbpjbgkaaaGreatDoor
open Go.Chi
noncomputable def tt : TT := [(3, Tryz.t3), (4, Tryz.t4), (9, Tryz.t9), (24, Tryz.t24), (45, Tryz.t45), (5, Tryz.t5), (70, Tryz.t70), (53, Tryz.t53), (218, Tryz.t218), (90, Tryz.t90), (471, Tryz.t471), (182, Tryz.t182), (95, Tryz.t95), (117, Tryz.t117), (389, Tryz.t389), (29, Tryz.t29), (220, Tryz.t220), (38, Tryz.t38), (48, Tryz.t48), (97, Tryz.t97), (173, Tryz.t173), (92, Tryz.t92), (85, Tryz.t85), (2, Tryz.t2), (324, Tryz.t324), (114, Tryz.t114), (170, Tryz.t170), (459, Tryz.t459), (360, Tryz.t360), (78, Tryz.t78), (83, Tryz.t83), (397, Tryz.t397), (41, Tryz.t41), (213, Tryz.t213), (52, Tryz.t52), (164, Tryz.t164), (190, Tryz.t190), (171, Tryz.t171), (281, Tryz.t281), (380, Tryz.t380), (99, Tryz.t99), (20, Tryz.t20), (47, Tryz.t47), (77, Tryz.t77), (243, Tryz.t243), (467, Tryz.t467), (346, Tryz.t346), (23, Tryz.t23), (1, Tryz.t1), (21, Tryz.t21), (135, Tryz.t135), (141, Tryz.t141), (42, Tryz.t42), (385, Tryz.t385), (44, Tryz.t44), (263, Tryz.t263), (123, Tryz.t123), (88, Tryz.t88), (169, Tryz.t169), (297, Tryz.t297), (33, Tryz.t33), (101, Tryz.t101), (230, Tryz.t230), (575, Tryz.t575), (405, Tryz.t405), (490, Tryz.t490), (55, Tryz.t55), (75, Tryz.t75), (72, Tryz.t72), (216, Tryz.t216), (441, Tryz.t441), (464, Tryz.t464), (523, Tryz.t523), (148, Tryz.t148), (309, Tryz.t309), (382, Tryz.t382), (204, Tryz.t204), (318, Tryz.t318), (388, Tryz.t388), (527, Tryz.t527), (119, Tryz.t119), (386, Tryz.t386), (362, Tryz.t362), (495, Tryz.t495), (538, Tryz.t538), (572, Tryz.t572), (236, Tryz.t236), (74, Tryz.t74), (196, Tryz.t196), (520, Tryz.t520), (150, Tryz.t150), (232, Tryz.t232), (383, Tryz.t383), (406, Tryz.t406), (501, Tryz.t501), (36, Tryz.t36), (116, Tryz.t116), (250, Tryz.t250), (443, Tryz.t443), (312, Tryz.t312), (393, Tryz.t393), (278, Tryz.t278), (351, Tryz.t351), (422, Tryz.t422), (487, Tryz.t487), (529, Tryz.t529), (580, Tryz.t580), (241, Tryz.t241), (352, Tryz.t352), (469, Tryz.t469), (107, Tryz.t107), (299, Tryz.t299), (319, Tryz.t319), (391, Tryz.t391), (109, Tryz.t109), (208, Tryz.t208), (246, Tryz.t246), (248, Tryz.t248), (271, Tryz.t271), (242, Tryz.t242), (121, Tryz.t121), (439, Tryz.t439), (175, Tryz.t175), (209, Tryz.t209), (477, Tryz.t477), (548, Tryz.t548), (111, Tryz.t111), (112, Tryz.t112), (113, Tryz.t113), (276, Tryz.t276), (331, Tryz.t331), (434, Tryz.t434), (452, Tryz.t452), (465, Tryz.t465), (488, Tryz.t488), (577, Tryz.t577), (105, Tryz.t105), (168, Tryz.t168), (143, Tryz.t143), (229, Tryz.t229), (358, Tryz.t358), (526, Tryz.t526), (127, Tryz.t127), (191, Tryz.t191), (412, Tryz.t412), (27, Tryz.t27), (447, Tryz.t447), (66, Tryz.t66), (65, Tryz.t65), (224, Tryz.t224), (485, Tryz.t485), (504, Tryz.t504), (554, Tryz.t554), (583, Tryz.t583), (587, Tryz.t587), (82, Tryz.t82), (233, Tryz.t233), (259, Tryz.t259), (274, Tryz.t274), (294, Tryz.t294), (432, Tryz.t432), (470, Tryz.t470), (498, Tryz.t498), (524, Tryz.t524), (535, Tryz.t535), (584, Tryz.t584), (60, Tryz.t60), (290, Tryz.t290), (292, Tryz.t292), (426, Tryz.t426), (492, Tryz.t492), (578, Tryz.t578), (146, Tryz.t146), (81, Tryz.t81), (126, Tryz.t126), (68, Tryz.t68), (205, Tryz.t205), (206, Tryz.t206), (161, Tryz.t161), (402, Tryz.t402), (375, Tryz.t375), (315, Tryz.t315), (521, Tryz.t521), (403, Tryz.t403), (531, Tryz.t531), (551, Tryz.t551), (59, Tryz.t59), (130, Tryz.t130), (293, Tryz.t293), (349, Tryz.t349), (484, Tryz.t484), (491, Tryz.t491), (497, Tryz.t497), (549, Tryz.t549), (534, Tryz.t534), (537, Tryz.t537), (539, Tryz.t539), (586, Tryz.t586), (582, Tryz.t582), (579, Tryz.t579), (574, Tryz.t574), (390, Tryz.t390), (530, Tryz.t530), (104, Tryz.t104), (528, Tryz.t528), (522, Tryz.t522), (446, Tryz.t446), (500, Tryz.t500), (494, Tryz.t494), (489, Tryz.t489), (468, Tryz.t468), (466, Tryz.t466), (440, Tryz.t440), (357, Tryz.t357), (433, Tryz.t433), (421, Tryz.t421), (411, Tryz.t411), (404, Tryz.t404), (392, Tryz.t392), (463, Tryz.t463), (387, Tryz.t387), (381, Tryz.t381), (361, Tryz.t361), (120, Tryz.t120), (350, Tryz.t350), (345, Tryz.t345), (323, Tryz.t323), (317, Tryz.t317), (311, Tryz.t311), (118, Tryz.t118), (296, Tryz.t296), (298, Tryz.t298), (280, Tryz.t280), (275, Tryz.t275), (273, Tryz.t273), (189, Tryz.t189), (212, Tryz.t212), (262, Tryz.t262), (249, Tryz.t249), (247, Tryz.t247), (235, Tryz.t235), (231, Tryz.t231), (228, Tryz.t228), (219, Tryz.t219), (217, Tryz.t217), (207, Tryz.t207), (181, Tryz.t181), (172, Tryz.t172), (167, Tryz.t167), (80, Tryz.t80), (96, Tryz.t96), (147, Tryz.t147), (140, Tryz.t140), (94, Tryz.t94), (134, Tryz.t134), (122, Tryz.t122), (115, Tryz.t115), (110, Tryz.t110), (108, Tryz.t108), (106, Tryz.t106), (100, Tryz.t100), (98, Tryz.t98), (69, Tryz.t69), (91, Tryz.t91), (84, Tryz.t84), (71, Tryz.t71), (76, Tryz.t76), (54, Tryz.t54), (46, Tryz.t46), (32, Tryz.t32), (22, Tryz.t22)]
theorem tok : TOk Tryz.prog tt := TOk.of_all (by
  unfold tt
  refine List.forall_mem_cons.2 ⟨⟨by kernel_rfl, by kernel_rfl, .inl (by kernel_rfl)⟩, ?_⟩
  refine List.forall_mem_cons.2 ⟨⟨by kernel_rfl, by kernel_rfl, .inl (by kernel_rfl)⟩, ?_⟩
  refine List.forall_mem_cons.2 ⟨⟨by kernel_rfl, by kernel_rfl, .inl (by kernel_rfl)⟩, ?_⟩
  refine List.forall_mem_cons.2 ⟨⟨by kernel_rfl, by kernel_rfl, .inl (by kernel_rfl)⟩, ?_⟩
  refine List.forall_mem_cons.2 ⟨⟨by kernel_rfl, by kernel_rfl, .inl (by kernel_rfl)⟩, ?_⟩
  refine List.forall_mem_cons.2 ⟨⟨by kernel_rfl, by kernel_rfl, .inl (by kernel_rfl)⟩, ?_⟩
  refine List.forall_mem_cons.2 ⟨⟨by kernel_rfl, by kernel_rfl, .inl (by kernel_rfl)⟩, ?_⟩
  refine List.forall_mem_cons.2 ⟨⟨by kernel_rfl, by kernel_rfl, .inl (by kernel_rfl)⟩, ?_⟩
  refine List.forall_mem_cons.2 ⟨⟨by kernel_rfl, by kernel_rfl, .inl (by kernel_rfl)⟩, ?_⟩
  refine List.forall_mem_cons.2 ⟨⟨by kernel_rfl, by kernel_rfl, .inl (by kernel_rfl)⟩, ?_⟩
  refine List.forall_mem_cons.2 ⟨⟨by kernel_rfl, by kernel_rfl, .inl (by kernel_rfl)⟩, ?_⟩
  refine List.forall_mem_cons.2 ⟨⟨by kernel_rfl, by kernel_rfl, .inl (by kernel_rfl)⟩, ?_⟩
  refine List.forall_mem_cons.2 ⟨⟨by kernel_rfl, by kernel_rfl, .inl (by kernel_rfl)⟩, ?_⟩
  refine List.forall_mem_cons.2 ⟨⟨by kernel_rfl, by kernel_rfl, .inl (by kernel_rfl)⟩, ?_⟩
  refine List.forall_mem_cons.2 ⟨⟨by kernel_rfl, by kernel_rfl, .inl (by kernel_rfl)⟩, ?_⟩
  refine List.forall_mem_cons.2 ⟨⟨by kernel_rfl, by kernel_rfl, .inl (by kernel_rfl)⟩, ?_⟩
  refine List.forall_mem_cons.2 ⟨⟨by kernel_rfl, by kernel_rfl, .inl (by kernel_rfl)⟩, ?_⟩
  refine List.forall_mem_cons.2 ⟨⟨by kernel_rfl, by kernel_rfl, .inl (by kernel_rfl)⟩, ?_⟩
  refine List.forall_mem_cons.2 ⟨⟨by kernel_rfl, by kernel_rfl, .inl (by kernel_rfl)⟩, ?_⟩
  refine List.forall_mem_cons.2 ⟨⟨by kernel_rfl, by kernel_rfl, .inl (by kernel_rfl)⟩, ?_⟩
  refine List.forall_mem_cons.2 ⟨⟨by kernel_rfl, by kernel_rfl, .inl (by kernel_rfl)⟩, ?_⟩
  refine List.forall_mem_cons.2 ⟨⟨by kernel_rfl, by kernel_rfl, .inl (by kernel_rfl)⟩, ?_⟩
  refine List.forall_mem_cons.2 ⟨⟨by kernel_rfl, by kernel_rfl, .inl (by kernel_rfl)⟩, ?_⟩
  refine List.forall_mem_cons.2 ⟨⟨by kernel_rfl, by kernel_rfl, .inl (by kernel_rfl)⟩, ?_⟩
  refine List.forall_mem_cons.2 ⟨⟨by kernel_rfl, by kernel_rfl, .inl (by kernel_rfl)⟩, ?_⟩
  refine List.forall_mem_cons.2 ⟨⟨by kernel_rfl, by kernel_rfl, .inl (by kernel_rfl)⟩, ?_⟩
  refine List.forall_mem_cons.2 ⟨⟨by kernel_rfl, by kernel_rfl, .inl (by kernel_rfl)⟩, ?_⟩
  refine List.forall_mem_cons.2 ⟨⟨by kernel_rfl, by kernel_rfl, .inl (by kernel_rfl)⟩, ?_⟩
  refine List.forall_mem_cons.2 ⟨⟨by kernel_rfl, by kernel_rfl, .inl (by kernel_rfl)⟩, ?_⟩
  refine List.forall_mem_cons.2 ⟨⟨by kernel_rfl, by kernel_rfl, .inl (by kernel_rfl)⟩, ?_⟩
  refine List.forall_mem_cons.2 ⟨⟨by kernel_rfl, by kernel_rfl, .inl (by kernel_rfl)⟩, ?_⟩
  refine List.forall_mem_cons.2 ⟨⟨by kernel_rfl, by kernel_rfl, .inl (by kernel_rfl)⟩, ?_⟩
  refine List.forall_mem_cons.2 ⟨⟨by kernel_rfl, by kernel_rfl, .inl (by kernel_rfl)⟩, ?_⟩
  refine List.forall_mem_cons.2 ⟨⟨by kernel_rfl, by kernel_rfl, .inl (by kernel_rfl)⟩, ?_⟩
  refine List.forall_mem_cons.2 ⟨⟨by kernel_rfl, by kernel_rfl, .inl (by kernel_rfl)⟩, ?_⟩
  refine List.forall_mem_cons.2 ⟨⟨by kernel_rfl, by kernel_rfl, .inl (by kernel_rfl)⟩, ?_⟩
  refine List.forall_mem_cons.2 ⟨⟨by kernel_rfl, by kernel_rfl, .inl (by kernel_rfl)⟩, ?_⟩
  refine List.forall_mem_cons.2 ⟨⟨by kernel_rfl, by kernel_rfl, .inl (by kernel_rfl)⟩, ?_⟩
  refine List.forall_mem_cons.2 ⟨⟨by kernel_rfl, by kernel_rfl, .inl (by kernel_rfl)⟩, ?_⟩
  refine List.forall_mem_cons.2 ⟨⟨by kernel_rfl, by kernel_rfl, .inl (by kernel_rfl)⟩, ?_⟩
  refine List.forall_mem_cons.2 ⟨⟨by kernel_rfl, by kernel_rfl, .inl (by kernel_rfl)⟩, ?_⟩
  refine List.forall_mem_cons.2 ⟨⟨by kernel_rfl, by kernel_rfl, .inr (by kernel_rfl)⟩, ?_⟩
  refine List.forall_mem_cons.2 ⟨⟨by kernel_rfl, by kernel_rfl, .inl (by kernel_rfl)⟩, ?_⟩
  refine List.forall_mem_cons.2 ⟨⟨by kernel_rfl, by kernel_rfl, .inl (by kernel_rfl)⟩, ?_⟩
  refine List.forall_mem_cons.2 ⟨⟨by kernel_rfl, by kernel_rfl, .inl (by kernel_rfl)⟩, ?_⟩
  refine List.forall_mem_cons.2 ⟨⟨by kernel_rfl, by kernel_rfl, .inl (by kernel_rfl)⟩, ?_⟩
  refine List.forall_mem_cons.2 ⟨⟨by kernel_rfl, by kernel_rfl, .inl (by kernel_rfl)⟩, ?_⟩
  refine List.forall_mem_cons.2 ⟨⟨by kernel_rfl, by kernel_rfl, .inl (by kernel_rfl)⟩, ?_⟩
  refine List.forall_mem_cons.2 ⟨⟨by kernel_rfl, by kernel_rfl, .inl (by kernel_rfl)⟩, ?_⟩
  refine List.forall_mem_cons.2 ⟨⟨by kernel_rfl, by kernel_rfl, .inl (by kernel_rfl)⟩, ?_⟩
  refine List.forall_mem_cons.2 ⟨⟨by kernel_rfl, by kernel_rfl, .inl (by kernel_rfl)⟩, ?_⟩
  refine List.forall_mem_cons.2 ⟨⟨by kernel_rfl, by kernel_rfl, .inl (by kernel_rfl)⟩, ?_⟩
  refine List.forall_mem_cons.2 ⟨⟨by kernel_rfl, by kernel_rfl, .inl (by kernel_rfl)⟩, ?_⟩
  refine List.forall_mem_cons.2 ⟨⟨by kernel_rfl, by kernel_rfl, .inl (by kernel_rfl)⟩, ?_⟩
  refine List.forall_mem_cons.2 ⟨⟨by kernel_rfl, by kernel_rfl, .inl (by kernel_rfl)⟩, ?_⟩
  refine List.forall_mem_cons.2 ⟨⟨by kernel_rfl, by kernel_rfl, .inl (by kernel_rfl)⟩, ?_⟩
  refine List.forall_mem_cons.2 ⟨⟨by kernel_rfl, by kernel_rfl, .inl (by kernel_rfl)⟩, ?_⟩
  refine List.forall_mem_cons.2 ⟨⟨by kernel_rfl, by kernel_rfl, .inl (by kernel_rfl)⟩, ?_⟩
  refine List.forall_mem_cons.2 ⟨⟨by kernel_rfl, by kernel_rfl, .inl (by kernel_rfl)⟩, ?_⟩
  refine List.forall_mem_cons.2 ⟨⟨by kernel_rfl, by kernel_rfl, .inl (by kernel_rfl)⟩, ?_⟩
  refine List.forall_mem_cons.2 ⟨⟨by kernel_rfl, by kernel_rfl, .inl (by kernel_rfl)⟩, ?_⟩
  refine List.forall_mem_cons.2 ⟨⟨by kernel_rfl, by kernel_rfl, .inl (by kernel_rfl)⟩, ?_⟩
  refine List.forall_mem_cons.2 ⟨⟨by kernel_rfl, by kernel_rfl, .inl (by kernel_rfl)⟩, ?_⟩
  refine List.forall_mem_cons.2 ⟨⟨by kernel_rfl, by kernel_rfl, .inl (by kernel_rfl)⟩, ?_⟩
  refine List.forall_mem_cons.2 ⟨⟨by kernel_rfl, by kernel_rfl, .inl (by kernel_rfl)⟩, ?_⟩
  refine List.forall_mem_cons.2 ⟨⟨by kernel_rfl, by kernel_rfl, .inl (by kernel_rfl)⟩, ?_⟩
  refine List.forall_mem_cons.2 ⟨⟨by kernel_rfl, by kernel_rfl, .inl (by kernel_rfl)⟩, ?_⟩
  refine List.forall_mem_cons.2 ⟨⟨by kernel_rfl, by kernel_rfl, .inl (by kernel_rfl)⟩, ?_⟩
  refine List.forall_mem_cons.2 ⟨⟨by kernel_rfl, by kernel_rfl, .inl (by kernel_rfl)⟩, ?_⟩
  refine List.forall_mem_cons.2 ⟨⟨by kernel_rfl, by kernel_rfl, .inl (by kernel_rfl)⟩, ?_⟩
  refine List.forall_mem_cons.2 ⟨⟨by kernel_rfl, by kernel_rfl, .inl (by kernel_rfl)⟩, ?_⟩
  refine List.forall_mem_cons.2 ⟨⟨by kernel_rfl, by kernel_rfl, .inr (by kernel_rfl)⟩, ?_⟩
  refine List.forall_mem_cons.2 ⟨⟨by kernel_rfl, by kernel_rfl, .inl (by kernel_rfl)⟩, ?_⟩
  refine List.forall_mem_cons.2 ⟨⟨by kernel_rfl, by kernel_rfl, .inl (by kernel_rfl)⟩, ?_⟩
  refine List.forall_mem_cons.2 ⟨⟨by kernel_rfl, by kernel_rfl, .inl (by kernel_rfl)⟩, ?_⟩
  refine List.forall_mem_cons.2 ⟨⟨by kernel_rfl, by kernel_rfl, .inl (by kernel_rfl)⟩, ?_⟩
  refine List.forall_mem_cons.2 ⟨⟨by kernel_rfl, by kernel_rfl, .inl (by kernel_rfl)⟩, ?_⟩
  refine List.forall_mem_cons.2 ⟨⟨by kernel_rfl, by kernel_rfl, .inl (by kernel_rfl)⟩, ?_⟩
  refine List.forall_mem_cons.2 ⟨⟨by kernel_rfl, by kernel_rfl, .inl (by kernel_rfl)⟩, ?_⟩
  refine List.forall_mem_cons.2 ⟨⟨by kernel_rfl, by kernel_rfl, .inl (by kernel_rfl)⟩, ?_⟩
  refine List.forall_mem_cons.2 ⟨⟨by kernel_rfl, by kernel_rfl, .inl (by kernel_rfl)⟩, ?_⟩
  refine List.forall_mem_cons.2 ⟨⟨by kernel_rfl, by kernel_rfl, .inl (by kernel_rfl)⟩, ?_⟩
  refine List.forall_mem_cons.2 ⟨⟨by kernel_rfl, by kernel_rfl, .inl (by kernel_rfl)⟩, ?_⟩
  refine List.forall_mem_cons.2 ⟨⟨by kernel_rfl, by kernel_rfl, .inl (by kernel_rfl)⟩, ?_⟩
  refine List.forall_mem_cons.2 ⟨⟨by kernel_rfl, by kernel_rfl, .inl (by kernel_rfl)⟩, ?_⟩
  refine List.forall_mem_cons.2 ⟨⟨by kernel_rfl, by kernel_rfl, .inl (by kernel_rfl)⟩, ?_⟩
  refine List.forall_mem_cons.2 ⟨⟨by kernel_rfl, by kernel_rfl, .inl (by kernel_rfl)⟩, ?_⟩
  refine List.forall_mem_cons.2 ⟨⟨by kernel_rfl, by kernel_rfl, .inl (by kernel_rfl)⟩, ?_⟩
  refine List.forall_mem_cons.2 ⟨⟨by kernel_rfl, by kernel_rfl, .inl (by kernel_rfl)⟩, ?_⟩
  refine List.forall_mem_cons.2 ⟨⟨by kernel_rfl, by kernel_rfl, .inl (by kernel_rfl)⟩, ?_⟩
  refine List.forall_mem_cons.2 ⟨⟨by kernel_rfl, by kernel_rfl, .inl (by kernel_rfl)⟩, ?_⟩
  refine List.forall_mem_cons.2 ⟨⟨by kernel_rfl, by kernel_rfl, .inl (by kernel_rfl)⟩, ?_⟩
  refine List.forall_mem_cons.2 ⟨⟨by kernel_rfl, by kernel_rfl, .inl (by kernel_rfl)⟩, ?_⟩
  refine List.forall_mem_cons.2 ⟨⟨by kernel_rfl, by kernel_rfl, .inl (by kernel_rfl)⟩, ?_⟩
  refine List.forall_mem_cons.2 ⟨⟨by kernel_rfl, by kernel_rfl, .inl (by kernel_rfl)⟩, ?_⟩
  refine List.forall_mem_cons.2 ⟨⟨by kernel_rfl, by kernel_rfl, .inl (by kernel_rfl)⟩, ?_⟩
  refine List.forall_mem_cons.2 ⟨⟨by kernel_rfl, by kernel_rfl, .inl (by kernel_rfl)⟩, ?_⟩
  refine List.forall_mem_cons.2 ⟨⟨by kernel_rfl, by kernel_rfl, .inl (by kernel_rfl)⟩, ?_⟩
  refine List.forall_mem_cons.2 ⟨⟨by kernel_rfl, by kernel_rfl, .inl (by kernel_rfl)⟩, ?_⟩
  refine List.forall_mem_cons.2 ⟨⟨by kernel_rfl, by kernel_rfl, .inl (by kernel_rfl)⟩, ?_⟩
  refine List.forall_mem_cons.2 ⟨⟨by kernel_rfl, by kernel_rfl, .inl (by kernel_rfl)⟩, ?_⟩
  refine List.forall_mem_cons.2 ⟨⟨by kernel_rfl, by kernel_rfl, .inl (by kernel_rfl)⟩, ?_⟩
  refine List.forall_mem_cons.2 ⟨⟨by kernel_rfl, by kernel_rfl, .inl (by kernel_rfl)⟩, ?_⟩
  refine List.forall_mem_cons.2 ⟨⟨by kernel_rfl, by kernel_rfl, .inl (by kernel_rfl)⟩, ?_⟩
  refine List.forall_mem_cons.2 ⟨⟨by kernel_rfl, by kernel_rfl, .inl (by kernel_rfl)⟩, ?_⟩
  refine List.forall_mem_cons.2 ⟨⟨by kernel_rfl, by kernel_rfl, .inl (by kernel_rfl)⟩, ?_⟩
  refine List.forall_mem_cons.2 ⟨⟨by kernel_rfl, by kernel_rfl, .inl (by kernel_rfl)⟩, ?_⟩
  refine List.forall_mem_cons.2 ⟨⟨by kernel_rfl, by kernel_rfl, .inl (by kernel_rfl)⟩, ?_⟩
  refine List.forall_mem_cons.2 ⟨⟨by kernel_rfl, by kernel_rfl, .inl (by kernel_rfl)⟩, ?_⟩
  refine List.forall_mem_cons.2 ⟨⟨by kernel_rfl, by kernel_rfl, .inl (by kernel_rfl)⟩, ?_⟩
  refine List.forall_mem_cons.2 ⟨⟨by kernel_rfl, by kernel_rfl, .inr (by kernel_rfl)⟩, ?_⟩
  refine List.forall_mem_cons.2 ⟨⟨by kernel_rfl, by kernel_rfl, .inl (by kernel_rfl)⟩, ?_⟩
  refine List.forall_mem_cons.2 ⟨⟨by kernel_rfl, by kernel_rfl, .inl (by kernel_rfl)⟩, ?_⟩
  refine List.forall_mem_cons.2 ⟨⟨by kernel_rfl, by kernel_rfl, .inl (by kernel_rfl)⟩, ?_⟩
  refine List.forall_mem_cons.2 ⟨⟨by kernel_rfl, by kernel_rfl, .inr (by kernel_rfl)⟩, ?_⟩
  refine List.forall_mem_cons.2 ⟨⟨by kernel_rfl, by kernel_rfl, .inl (by kernel_rfl)⟩, ?_⟩
  refine List.forall_mem_cons.2 ⟨⟨by kernel_rfl, by kernel_rfl, .inl (by kernel_rfl)⟩, ?_⟩
  refine List.forall_mem_cons.2 ⟨⟨by kernel_rfl, by kernel_rfl, .inl (by kernel_rfl)⟩, ?_⟩
  refine List.forall_mem_cons.2 ⟨⟨by kernel_rfl, by kernel_rfl, .inl (by kernel_rfl)⟩, ?_⟩
  refine List.forall_mem_cons.2 ⟨⟨by kernel_rfl, by kernel_rfl, .inl (by kernel_rfl)⟩, ?_⟩
  refine List.forall_mem_cons.2 ⟨⟨by kernel_rfl, by kernel_rfl, .inl (by kernel_rfl)⟩, ?_⟩
  refine List.forall_mem_cons.2 ⟨⟨by kernel_rfl, by kernel_rfl, .inl (by kernel_rfl)⟩, ?_⟩
  refine List.forall_mem_cons.2 ⟨⟨by kernel_rfl, by kernel_rfl, .inl (by kernel_rfl)⟩, ?_⟩
  refine List.forall_mem_cons.2 ⟨⟨by kernel_rfl, by kernel_rfl, .inl (by kernel_rfl)⟩, ?_⟩
  refine List.forall_mem_cons.2 ⟨⟨by kernel_rfl, by kernel_rfl, .inl (by kernel_rfl)⟩, ?_⟩
  refine List.forall_mem_cons.2 ⟨⟨by kernel_rfl, by kernel_rfl, .inl (by kernel_rfl)⟩, ?_⟩
  refine List.forall_mem_cons.2 ⟨⟨by kernel_rfl, by kernel_rfl, .inl (by kernel_rfl)⟩, ?_⟩
  refine List.forall_mem_cons.2 ⟨⟨by kernel_rfl, by kernel_rfl, .inl (by kernel_rfl)⟩, ?_⟩
  refine List.forall_mem_cons.2 ⟨⟨by kernel_rfl, by kernel_rfl, .inl (by kernel_rfl)⟩, ?_⟩
  refine List.forall_mem_cons.2 ⟨⟨by kernel_rfl, by kernel_rfl, .inl (by kernel_rfl)⟩, ?_⟩
  refine List.forall_mem_cons.2 ⟨⟨by kernel_rfl, by kernel_rfl, .inl (by kernel_rfl)⟩, ?_⟩
  refine List.forall_mem_cons.2 ⟨⟨by kernel_rfl, by kernel_rfl, .inl (by kernel_rfl)⟩, ?_⟩
  refine List.forall_mem_cons.2 ⟨⟨by kernel_rfl, by kernel_rfl, .inl (by kernel_rfl)⟩, ?_⟩
  refine List.forall_mem_cons.2 ⟨⟨by kernel_rfl, by kernel_rfl, .inl (by kernel_rfl)⟩, ?_⟩
  refine List.forall_mem_cons.2 ⟨⟨by kernel_rfl, by kernel_rfl, .inl (by kernel_rfl)⟩, ?_⟩
  refine List.forall_mem_cons.2 ⟨⟨by kernel_rfl, by kernel_rfl, .inl (by kernel_rfl)⟩, ?_⟩
  refine List.forall_mem_cons.2 ⟨⟨by kernel_rfl, by kernel_rfl, .inl (by kernel_rfl)⟩, ?_⟩
  refine List.forall_mem_cons.2 ⟨⟨by kernel_rfl, by kernel_rfl, .inl (by kernel_rfl)⟩, ?_⟩
  refine List.forall_mem_cons.2 ⟨⟨by kernel_rfl, by kernel_rfl, .inl (by kernel_rfl)⟩, ?_⟩
  refine List.forall_mem_cons.2 ⟨⟨by kernel_rfl, by kernel_rfl, .inl (by kernel_rfl)⟩, ?_⟩
  refine List.forall_mem_cons.2 ⟨⟨by kernel_rfl, by kernel_rfl, .inl (by kernel_rfl)⟩, ?_⟩
  refine List.forall_mem_cons.2 ⟨⟨by kernel_rfl, by kernel_rfl, .inl (by kernel_rfl)⟩, ?_⟩
  refine List.forall_mem_cons.2 ⟨⟨by kernel_rfl, by kernel_rfl, .inl (by kernel_rfl)⟩, ?_⟩
  refine List.forall_mem_cons.2 ⟨⟨by kernel_rfl, by kernel_rfl, .inl (by kernel_rfl)⟩, ?_⟩
  refine List.forall_mem_cons.2 ⟨⟨by kernel_rfl, by kernel_rfl, .inl (by kernel_rfl)⟩, ?_⟩
  refine List.forall_mem_cons.2 ⟨⟨by kernel_rfl, by kernel_rfl, .inl (by kernel_rfl)⟩, ?_⟩
  refine List.forall_mem_cons.2 ⟨⟨by kernel_rfl, by kernel_rfl, .inl (by kernel_rfl)⟩, ?_⟩
  refine List.forall_mem_cons.2 ⟨⟨by kernel_rfl, by kernel_rfl, .inl (by kernel_rfl)⟩, ?_⟩
  refine List.forall_mem_cons.2 ⟨⟨by kernel_rfl, by kernel_rfl, .inl (by kernel_rfl)⟩, ?_⟩
  refine List.forall_mem_cons.2 ⟨⟨by kernel_rfl, by kernel_rfl, .inl (by kernel_rfl)⟩, ?_⟩
  refine List.forall_mem_cons.2 ⟨⟨by kernel_rfl, by kernel_rfl, .inl (by kernel_rfl)⟩, ?_⟩
  refine List.forall_mem_cons.2 ⟨⟨by kernel_rfl, by kernel_rfl, .inl (by kernel_rfl)⟩, ?_⟩
  refine List.forall_mem_cons.2 ⟨⟨by kernel_rfl, by kernel_rfl, .inl (by kernel_rfl)⟩, ?_⟩
  refine List.forall_mem_cons.2 ⟨⟨by kernel_rfl, by kernel_rfl, .inl (by kernel_rfl)⟩, ?_⟩
  refine List.forall_mem_cons.2 ⟨⟨by kernel_rfl, by kernel_rfl, .inl (by kernel_rfl)⟩, ?_⟩
  refine List.forall_mem_cons.2 ⟨⟨by kernel_rfl, by kernel_rfl, .inl (by kernel_rfl)⟩, ?_⟩
  refine List.forall_mem_cons.2 ⟨⟨by kernel_rfl, by kernel_rfl, .inl (by kernel_rfl)⟩, ?_⟩
  refine List.forall_mem_cons.2 ⟨⟨by kernel_rfl, by kernel_rfl, .inl (by kernel_rfl)⟩, ?_⟩
  refine List.forall_mem_cons.2 ⟨⟨by kernel_rfl, by kernel_rfl, .inl (by kernel_rfl)⟩, ?_⟩
  refine List.forall_mem_cons.2 ⟨⟨by kernel_rfl, by kernel_rfl, .inl (by kernel_rfl)⟩, ?_⟩
  refine List.forall_mem_cons.2 ⟨⟨by kernel_rfl, by kernel_rfl, .inl (by kernel_rfl)⟩, ?_⟩
  refine List.forall_mem_cons.2 ⟨⟨by kernel_rfl, by kernel_rfl, .inl (by kernel_rfl)⟩, ?_⟩
  refine List.forall_mem_cons.2 ⟨⟨by kernel_rfl, by kernel_rfl, .inl (by kernel_rfl)⟩, ?_⟩
  refine List.forall_mem_cons.2 ⟨⟨by kernel_rfl, by kernel_rfl, .inl (by kernel_rfl)⟩, ?_⟩
  refine List.forall_mem_cons.2 ⟨⟨by kernel_rfl, by kernel_rfl, .inl (by kernel_rfl)⟩, ?_⟩
  refine List.forall_mem_cons.2 ⟨⟨by kernel_rfl, by kernel_rfl, .inl (by kernel_rfl)⟩, ?_⟩
  refine List.forall_mem_cons.2 ⟨⟨by kernel_rfl, by kernel_rfl, .inl (by kernel_rfl)⟩, ?_⟩
  refine List.forall_mem_cons.2 ⟨⟨by kernel_rfl, by kernel_rfl, .inl (by kernel_rfl)⟩, ?_⟩
  refine List.forall_mem_cons.2 ⟨⟨by kernel_rfl, by kernel_rfl, .inl (by kernel_rfl)⟩, ?_⟩
  refine List.forall_mem_cons.2 ⟨⟨by kernel_rfl, by kernel_rfl, .inl (by kernel_rfl)⟩, ?_⟩
  refine List.forall_mem_cons.2 ⟨⟨by kernel_rfl, by kernel_rfl, .inl (by kernel_rfl)⟩, ?_⟩
  refine List.forall_mem_cons.2 ⟨⟨by kernel_rfl, by kernel_rfl, .inl (by kernel_rfl)⟩, ?_⟩
  refine List.forall_mem_cons.2 ⟨⟨by kernel_rfl, by kernel_rfl, .inl (by kernel_rfl)⟩, ?_⟩
  refine List.forall_mem_cons.2 ⟨⟨by kernel_rfl, by kernel_rfl, .inl (by kernel_rfl)⟩, ?_⟩
  refine List.forall_mem_cons.2 ⟨⟨by kernel_rfl, by kernel_rfl, .inl (by kernel_rfl)⟩, ?_⟩
  refine List.forall_mem_cons.2 ⟨⟨by kernel_rfl, by kernel_rfl, .inl (by kernel_rfl)⟩, ?_⟩
  refine List.forall_mem_cons.2 ⟨⟨by kernel_rfl, by kernel_rfl, .inl (by kernel_rfl)⟩, ?_⟩
  refine List.forall_mem_cons.2 ⟨⟨by kernel_rfl, by kernel_rfl, .inl (by kernel_rfl)⟩, ?_⟩
  refine List.forall_mem_cons.2 ⟨⟨by kernel_rfl, by kernel_rfl, .inl (by kernel_rfl)⟩, ?_⟩
  refine List.forall_mem_cons.2 ⟨⟨by kernel_rfl, by kernel_rfl, .inl (by kernel_rfl)⟩, ?_⟩
  refine List.forall_mem_cons.2 ⟨⟨by kernel_rfl, by kernel_rfl, .inl (by kernel_rfl)⟩, ?_⟩
  refine List.forall_mem_cons.2 ⟨⟨by kernel_rfl, by kernel_rfl, .inl (by kernel_rfl)⟩, ?_⟩
  refine List.forall_mem_cons.2 ⟨⟨by kernel_rfl, by kernel_rfl, .inl (by kernel_rfl)⟩, ?_⟩
  refine List.forall_mem_cons.2 ⟨⟨by kernel_rfl, by kernel_rfl, .inl (by kernel_rfl)⟩, ?_⟩
  refine List.forall_mem_cons.2 ⟨⟨by kernel_rfl, by kernel_rfl, .inr (by kernel_rfl)⟩, ?_⟩
  refine List.forall_mem_cons.2 ⟨⟨by kernel_rfl, by kernel_rfl, .inl (by kernel_rfl)⟩, ?_⟩
  refine List.forall_mem_cons.2 ⟨⟨by kernel_rfl, by kernel_rfl, .inl (by kernel_rfl)⟩, ?_⟩
  refine List.forall_mem_cons.2 ⟨⟨by kernel_rfl, by kernel_rfl, .inl (by kernel_rfl)⟩, ?_⟩
  refine List.forall_mem_cons.2 ⟨⟨by kernel_rfl, by kernel_rfl, .inl (by kernel_rfl)⟩, ?_⟩
  refine List.forall_mem_cons.2 ⟨⟨by kernel_rfl, by kernel_rfl, .inl (by kernel_rfl)⟩, ?_⟩
  refine List.forall_mem_cons.2 ⟨⟨by kernel_rfl, by kernel_rfl, .inl (by kernel_rfl)⟩, ?_⟩
  refine List.forall_mem_cons.2 ⟨⟨by kernel_rfl, by kernel_rfl, .inl (by kernel_rfl)⟩, ?_⟩
  refine List.forall_mem_cons.2 ⟨⟨by kernel_rfl, by kernel_rfl, .inl (by kernel_rfl)⟩, ?_⟩
  refine List.forall_mem_cons.2 ⟨⟨by kernel_rfl, by kernel_rfl, .inl (by kernel_rfl)⟩, ?_⟩
  refine List.forall_mem_cons.2 ⟨⟨by kernel_rfl, by kernel_rfl, .inl (by kernel_rfl)⟩, ?_⟩
  refine List.forall_mem_cons.2 ⟨⟨by kernel_rfl, by kernel_rfl, .inl (by kernel_rfl)⟩, ?_⟩
  refine List.forall_mem_cons.2 ⟨⟨by kernel_rfl, by kernel_rfl, .inl (by kernel_rfl)⟩, ?_⟩
  refine List.forall_mem_cons.2 ⟨⟨by kernel_rfl, by kernel_rfl, .inl (by kernel_rfl)⟩, ?_⟩
  refine List.forall_mem_cons.2 ⟨⟨by kernel_rfl, by kernel_rfl, .inl (by kernel_rfl)⟩, ?_⟩
  refine List.forall_mem_cons.2 ⟨⟨by kernel_rfl, by kernel_rfl, .inl (by kernel_rfl)⟩, ?_⟩
  refine List.forall_mem_cons.2 ⟨⟨by kernel_rfl, by kernel_rfl, .inl (by kernel_rfl)⟩, ?_⟩
  refine List.forall_mem_cons.2 ⟨⟨by kernel_rfl, by kernel_rfl, .inl (by kernel_rfl)⟩, ?_⟩
  refine List.forall_mem_cons.2 ⟨⟨by kernel_rfl, by kernel_rfl, .inr (by kernel_rfl)⟩, ?_⟩
  refine List.forall_mem_cons.2 ⟨⟨by kernel_rfl, by kernel_rfl, .inl (by kernel_rfl)⟩, ?_⟩
  refine List.forall_mem_cons.2 ⟨⟨by kernel_rfl, by kernel_rfl, .inl (by kernel_rfl)⟩, ?_⟩
  refine List.forall_mem_cons.2 ⟨⟨by kernel_rfl, by kernel_rfl, .inl (by kernel_rfl)⟩, ?_⟩
  refine List.forall_mem_cons.2 ⟨⟨by kernel_rfl, by kernel_rfl, .inl (by kernel_rfl)⟩, ?_⟩
  refine List.forall_mem_cons.2 ⟨⟨by kernel_rfl, by kernel_rfl, .inl (by kernel_rfl)⟩, ?_⟩
  refine List.forall_mem_cons.2 ⟨⟨by kernel_rfl, by kernel_rfl, .inl (by kernel_rfl)⟩, ?_⟩
  refine List.forall_mem_cons.2 ⟨⟨by kernel_rfl, by kernel_rfl, .inl (by kernel_rfl)⟩, ?_⟩
  refine List.forall_mem_cons.2 ⟨⟨by kernel_rfl, by kernel_rfl, .inl (by kernel_rfl)⟩, ?_⟩
  refine List.forall_mem_cons.2 ⟨⟨by kernel_rfl, by kernel_rfl, .inl (by kernel_rfl)⟩, ?_⟩
  refine List.forall_mem_cons.2 ⟨⟨by kernel_rfl, by kernel_rfl, .inl (by kernel_rfl)⟩, ?_⟩
  refine List.forall_mem_cons.2 ⟨⟨by kernel_rfl, by kernel_rfl, .inl (by kernel_rfl)⟩, ?_⟩
  refine List.forall_mem_cons.2 ⟨⟨by kernel_rfl, by kernel_rfl, .inl (by kernel_rfl)⟩, ?_⟩
  refine List.forall_mem_cons.2 ⟨⟨by kernel_rfl, by kernel_rfl, .inl (by kernel_rfl)⟩, ?_⟩
  refine List.forall_mem_cons.2 ⟨⟨by kernel_rfl, by kernel_rfl, .inl (by kernel_rfl)⟩, ?_⟩
  refine List.forall_mem_cons.2 ⟨⟨by kernel_rfl, by kernel_rfl, .inl (by kernel_rfl)⟩, ?_⟩
  refine List.forall_mem_cons.2 ⟨⟨by kernel_rfl, by kernel_rfl, .inl (by kernel_rfl)⟩, ?_⟩
  refine List.forall_mem_cons.2 ⟨⟨by kernel_rfl, by kernel_rfl, .inr (by kernel_rfl)⟩, ?_⟩
  refine List.forall_mem_cons.2 ⟨⟨by kernel_rfl, by kernel_rfl, .inl (by kernel_rfl)⟩, ?_⟩
  refine List.forall_mem_cons.2 ⟨⟨by kernel_rfl, by kernel_rfl, .inl (by kernel_rfl)⟩, ?_⟩
  refine List.forall_mem_cons.2 ⟨⟨by kernel_rfl, by kernel_rfl, .inl (by kernel_rfl)⟩, ?_⟩
  refine List.forall_mem_cons.2 ⟨⟨by kernel_rfl, by kernel_rfl, .inl (by kernel_rfl)⟩, ?_⟩
  refine List.forall_mem_cons.2 ⟨⟨by kernel_rfl, by kernel_rfl, .inl (by kernel_rfl)⟩, ?_⟩
  refine List.forall_mem_cons.2 ⟨⟨by kernel_rfl, by kernel_rfl, .inl (by kernel_rfl)⟩, ?_⟩
  refine List.forall_mem_cons.2 ⟨⟨by kernel_rfl, by kernel_rfl, .inl (by kernel_rfl)⟩, ?_⟩
  refine List.forall_mem_cons.2 ⟨⟨by kernel_rfl, by kernel_rfl, .inl (by kernel_rfl)⟩, ?_⟩
  refine List.forall_mem_cons.2 ⟨⟨by kernel_rfl, by kernel_rfl, .inl (by kernel_rfl)⟩, ?_⟩
  refine List.forall_mem_cons.2 ⟨⟨by kernel_rfl, by kernel_rfl, .inl (by kernel_rfl)⟩, ?_⟩
  refine List.forall_mem_cons.2 ⟨⟨by kernel_rfl, by kernel_rfl, .inl (by kernel_rfl)⟩, ?_⟩
  refine List.forall_mem_cons.2 ⟨⟨by kernel_rfl, by kernel_rfl, .inl (by kernel_rfl)⟩, ?_⟩
  refine List.forall_mem_cons.2 ⟨⟨by kernel_rfl, by kernel_rfl, .inl (by kernel_rfl)⟩, ?_⟩
  refine List.forall_mem_cons.2 ⟨⟨by kernel_rfl, by kernel_rfl, .inl (by kernel_rfl)⟩, ?_⟩
  refine List.forall_mem_cons.2 ⟨⟨by kernel_rfl, by kernel_rfl, .inl (by kernel_rfl)⟩, ?_⟩
  refine List.forall_mem_cons.2 ⟨⟨by kernel_rfl, by kernel_rfl, .inl (by kernel_rfl)⟩, ?_⟩
  refine List.forall_mem_cons.2 ⟨⟨by kernel_rfl, by kernel_rfl, .inl (by kernel_rfl)⟩, ?_⟩
  refine List.forall_mem_cons.2 ⟨⟨by kernel_rfl, by kernel_rfl, .inl (by kernel_rfl)⟩, ?_⟩
  refine List.forall_mem_cons.2 ⟨⟨by kernel_rfl, by kernel_rfl, .inl (by kernel_rfl)⟩, ?_⟩
  refine List.forall_mem_cons.2 ⟨⟨by kernel_rfl, by kernel_rfl, .inl (by kernel_rfl)⟩, ?_⟩
  refine List.forall_mem_cons.2 ⟨⟨by kernel_rfl, by kernel_rfl, .inl (by kernel_rfl)⟩, ?_⟩
  refine List.forall_mem_cons.2 ⟨⟨by kernel_rfl, by kernel_rfl, .inl (by kernel_rfl)⟩, ?_⟩
  refine List.forall_mem_cons.2 ⟨⟨by kernel_rfl, by kernel_rfl, .inl (by kernel_rfl)⟩, ?_⟩
  refine List.forall_mem_cons.2 ⟨⟨by kernel_rfl, by kernel_rfl, .inl (by kernel_rfl)⟩, ?_⟩
  refine List.forall_mem_cons.2 ⟨⟨by kernel_rfl, by kernel_rfl, .inl (by kernel_rfl)⟩, ?_⟩
  refine List.forall_mem_cons.2 ⟨⟨by kernel_rfl, by kernel_rfl, .inl (by kernel_rfl)⟩, ?_⟩
  refine List.forall_mem_cons.2 ⟨⟨by kernel_rfl, by kernel_rfl, .inl (by kernel_rfl)⟩, ?_⟩
  refine List.forall_mem_cons.2 ⟨⟨by kernel_rfl, by kernel_rfl, .inl (by kernel_rfl)⟩, ?_⟩
  refine List.forall_mem_cons.2 ⟨⟨by kernel_rfl, by kernel_rfl, .inl (by kernel_rfl)⟩, ?_⟩
  refine List.forall_mem_cons.2 ⟨⟨by kernel_rfl, by kernel_rfl, .inl (by kernel_rfl)⟩, ?_⟩
  refine List.forall_mem_cons.2 ⟨⟨by kernel_rfl, by kernel_rfl, .inl (by kernel_rfl)⟩, ?_⟩
  refine List.forall_mem_cons.2 ⟨⟨by kernel_rfl, by kernel_rfl, .inl (by kernel_rfl)⟩, ?_⟩
  refine List.forall_mem_cons.2 ⟨⟨by kernel_rfl, by kernel_rfl, .inl (by kernel_rfl)⟩, ?_⟩
  refine List.forall_mem_cons.2 ⟨⟨by kernel_rfl, by kernel_rfl, .inl (by kernel_rfl)⟩, ?_⟩
  refine List.forall_mem_cons.2 ⟨⟨by kernel_rfl, by kernel_rfl, .inl (by kernel_rfl)⟩, ?_⟩
  refine List.forall_mem_cons.2 ⟨⟨by kernel_rfl, by kernel_rfl, .inl (by kernel_rfl)⟩, ?_⟩
  refine List.forall_mem_cons.2 ⟨⟨by kernel_rfl, by kernel_rfl, .inl (by kernel_rfl)⟩, ?_⟩
  refine List.forall_mem_cons.2 ⟨⟨by kernel_rfl, by kernel_rfl, .inl (by kernel_rfl)⟩, ?_⟩
  refine List.forall_mem_cons.2 ⟨⟨by kernel_rfl, by kernel_rfl, .inr (by kernel_rfl)⟩, ?_⟩
  refine List.forall_mem_cons.2 ⟨⟨by kernel_rfl, by kernel_rfl, .inr (by kernel_rfl)⟩, ?_⟩
  refine List.forall_mem_cons.2 ⟨⟨by kernel_rfl, by kernel_rfl, .inl (by kernel_rfl)⟩, ?_⟩
  refine List.forall_mem_cons.2 ⟨⟨by kernel_rfl, by kernel_rfl, .inl (by kernel_rfl)⟩, ?_⟩
  refine List.forall_mem_cons.2 ⟨⟨by kernel_rfl, by kernel_rfl, .inl (by kernel_rfl)⟩, ?_⟩
  refine List.forall_mem_cons.2 ⟨⟨by kernel_rfl, by kernel_rfl, .inl (by kernel_rfl)⟩, ?_⟩
  refine List.forall_mem_cons.2 ⟨⟨by kernel_rfl, by kernel_rfl, .inl (by kernel_rfl)⟩, ?_⟩
  refine List.forall_mem_cons.2 ⟨⟨by kernel_rfl, by kernel_rfl, .inl (by kernel_rfl)⟩, ?_⟩
  refine List.forall_mem_cons.2 ⟨⟨by kernel_rfl, by kernel_rfl, .inl (by kernel_rfl)⟩, ?_⟩
  refine List.forall_mem_cons.2 ⟨⟨by kernel_rfl, by kernel_rfl, .inl (by kernel_rfl)⟩, ?_⟩
  refine List.forall_mem_cons.2 ⟨⟨by kernel_rfl, by kernel_rfl, .inl (by kernel_rfl)⟩, ?_⟩
  refine List.forall_mem_cons.2 ⟨⟨by kernel_rfl, by kernel_rfl, .inl (by kernel_rfl)⟩, ?_⟩
  refine List.forall_mem_cons.2 ⟨⟨by kernel_rfl, by kernel_rfl, .inl (by kernel_rfl)⟩, ?_⟩
  exact fun x hx => by cases hx)
theorem mixed : Tryz.prog.follows .mixedOrders = true := by kernel_rfl
end Go.Proofs.YtehlgbbpjbgkaaaGreatDoor
namespace Go.Proofs.YtehlgbbpjbgkaaaGreatDoor
open Go.Chi
section
variable {C : Cx} {n : Nat} {k : List Item} {ds : List Deferred} {σ : Env} {δ : Den} {M : Mem} {L L' : HL} {ops : Array Oper} {X : List Nat} {d i : Nat} {op : Op} {ty : TypeId} {pos : String} {aft : Array Edge} {l : List Oper} {v u : Value} {j s : Nat} {want c : Bool} {p : Path} {t : TypeId} {x y : Operand} {b off sz : Nat} {cs cs' : List Value} {et : TypeId}
theorem wq (h : RunL Tryz.prog C n ops l k ds ((d, v) :: σ) δ M L)
    (hst : Qt Tryz.prog C.b.roundOf ⟨some d, op, ty, pos, aft, none⟩ σ δ [] M L v := by first | refine qt_pev tok rfl | refine ql tok rfl)
    (hd : Nat.blt d n = true := by exact rfl) (hn : lkd δ d = none := by exact rfl) (hu : unNamed δ d = true := by exact rfl) : RunL Tryz.prog C n ops (⟨some d, op, ty, pos, aft, none⟩ :: l) k ds σ δ M L := runL_q hst hd hn hu h
theorem wg (h : RunL Tryz.prog C n ops l k ds σ ((d, (s, want) :: p, v) :: δ) M L)
    (hj : slotOf ops j = some s := by exact rfl) (hg : lkg σ δ s = some (p, .bool c) := by exact rfl)
    (hst : Qt Tryz.prog C.b.roundOf ⟨some d, op, ty, pos, aft, some (j, want)⟩ σ δ ((s, want) :: p) M L v := by first | refine qt_pev tok rfl | refine ql tok rfl)
    (hd : Nat.blt d n = true := by exact rfl) (hn : lkd δ d = none := by exact rfl) (hsd : lks σ d = none := by exact rfl) (hu : unNamed δ d = true := by exact rfl) (hp : unP ((s, want) :: p) d = true := by exact rfl) : RunL Tryz.prog C n ops (⟨some d, op, ty, pos, aft, some (j, want)⟩ :: l) k ds σ δ M L := runL_g hj hg hst hd hn hsd hu hp h
theorem wgK (h : RunL Tryz.prog C n ops l k ds ((d, v) :: σ) δ M L)
    (hj : slotOf ops j = some s := by exact rfl) (hg : knows σ s want = true := by exact rfl)
    (hst : Qt Tryz.prog C.b.roundOf ⟨some d, op, ty, pos, aft, some (j, want)⟩ σ δ [] M L v := by first | refine qt_pev tok rfl | refine ql tok rfl)
    (hd : Nat.blt d n = true := by exact rfl) (hn : lkd δ d = none := by exact rfl) (hu : unNamed δ d = true := by exact rfl) : RunL Tryz.prog C n ops (⟨some d, op, ty, pos, aft, some (j, want)⟩ :: l) k ds σ δ M L := runL_gK hj hg hst hd hn hu h
theorem ws (h : RunL Tryz.prog C n ops l k ds σ δ M L') (hx : ev σ δ [] x = some (.pointer (some ⟨b, off, none⟩)) := by exact rfl) (hy : ev σ δ [] y = some v := by exact rfl)
    (hi : sizeT tt t = some sz := by exact rfl) (hl : (cellsL v).length = sz := by exact rfl) (h1 : oneL (cellsL v) = true := by exact rfl)
    (hu : Upd L b (.cells ⟨cs⟩ et (0, 0)) (.cells ⟨cs'⟩ et (0, 0)) L' := by (repeat (first | with_reducible apply Upd.here | with_reducible apply Upd.there | with_reducible apply Upd.append_left))) (hcs : setE cs off (cellsL v) = some cs' := by exact rfl) :
    RunL Tryz.prog C n ops (⟨none, .store t x y, ty, pos, aft, none⟩ :: l) k ds σ δ M L := runL_op0 (sst tok hx hy hi hl h1 hu hcs) (by rintro _ _ _ ⟨rfl, rfl, rfl⟩; exact h)
theorem wb (h : ∀ b, RunL Tryz.prog C n ops l k ds ((d, .pointer (some ⟨b, 0, none⟩)) :: σ) δ M ((b, .cells ⟨cellsL v⟩ t (0, 0)) :: L)) (hx : ev σ δ [] x = some v := by exact rfl)
    (hd : Nat.blt d n = true := by exact rfl) (hn : lkd δ d = none := by exact rfl) (hu : unNamed δ d = true := by exact rfl) : RunL Tryz.prog C n ops (⟨some d, .box t x, ty, pos, aft, none⟩ :: l) k ds σ δ M L :=
  runL_op (st_box hx) hd hn hu (by rintro _ _ _ ⟨b, rfl, rfl, rfl⟩; exact h b)
theorem wa (h : ∀ b, RunL Tryz.prog C n ops l k ds ((d, .pointer (some ⟨b, 0, none⟩)) :: σ) δ M ((b, .cells ⟨cellsL v⟩ t (0, 0)) :: L)) (hz : zeroT tt t = some v := by exact rfl)
    (hd : Nat.blt d n = true := by exact rfl) (hn : lkd δ d = none := by exact rfl) (hu : unNamed δ d = true := by exact rfl) : RunL Tryz.prog C n ops (⟨some d, .alloc t, ty, pos, aft, none⟩ :: l) k ds σ δ M L :=
  runL_op (st_alloc tok hz) hd hn hu (by rintro _ _ _ ⟨b, rfl, rfl, rfl⟩; exact h b)
theorem dq (h : PR Tryz.prog C n ops k ds (dn (i + 1)) X ((d, v) :: σ) δ M L) (ho : ops[i]? = some ⟨some d, op, ty, pos, aft, none⟩ := by exact rfl)
    (hst : Qt Tryz.prog C.b.roundOf ⟨some d, op, ty, pos, aft, none⟩ σ δ [] M L v := by first | refine qt_pev tok rfl | refine ql tok rfl)
    (hchk : chkQ ops (dn i) i = true := by decide +kernel) (hd : Nat.blt d n = true := by exact rfl) (hn : lkd δ d = none := by exact rfl) (hu : unNamed δ d = true := by exact rfl) : PR Tryz.prog C n ops k ds (dn i) X σ δ M L := prn_q ho hst hchk hd hn hu h
end
theorem zc {A B : Prop} (h : A) (hs : A → B := by
  first
  | with_reducible first | exact zS | exact zR | exact zN | exact zK | exact zB | exact zI
  | exact zE rfl) : B := hs h
theorem zq {A B : Prop} (h : A) (hs : A → B := by first | exact fun h => wq h | exact fun h => wg h | exact fun h => ws h) : B := hs h
theorem zk {A B : Prop} (h : A) (hs : A → B := by first | exact fun h => wq h | exact fun h => wgK h | exact fun h => wgF h | exact fun h => wg h | exact fun h => ws h) : B := hs h
theorem zz {A B : Prop} (h : A) (hs : A → B := by
  first
  | with_reducible first | exact zS | exact zR | exact zN | exact zK | exact zB | exact zI
  | exact zE rfl
  | exact fun h => wq h | exact fun h => wg h | exact fun h => ws h) : B := hs h
theorem zx {A : Nat → Prop} {B : Prop} (h : ∀ b, A b) (hs : (∀ b, A b) → B := by first | exact fun h => wb h | exact fun h => wa h | exact fun h => wl h) : B := hs h
theorem dd {A B : Prop} (h : A) (hs : A → B := by first | exact prn_start mixed | exact prn_end (by decide +kernel)) : B := hs h
theorem dz {A B : Prop} (h : A) (hs : A → B := by
  first
  | exact fun h => dq h | exact fun h => dg h
  | exact fun h => prn_e0 rfl (sst tok rfl rfl rfl rfl rfl) (by decide +kernel) (by rintro _ _ _ ⟨rfl, rfl, rfl⟩; exact h)
  | exact fun h => prn_o0 rfl (sst tok rfl rfl rfl rfl rfl) (by decide +kernel) (by rintro _ _ _ ⟨rfl, rfl, rfl⟩; exact ⟨by (repeat (first | exact trivial | refine And.intro (pend_q rfl rfl rfl (qt_pev tok rfl)) ?_ | refine And.intro (pend_q rfl rfl rfl (ql tok rfl)) ?_)), h⟩)
  | exact fun h => pe rfl (qt_pev tok rfl) (by rintro _ _ _ ⟨rfl, rfl, rfl⟩; exact h)) : B := hs h
end Go.Proofs.YtehlgbbpjbgkaaaGreatDoor
namespace Go.Ev
open Go.Chi
inductive Bt (α : Type) where
  | nil
  | node (v : Option α) (l r : Bt α)
variable {α : Type}
inductive Pa where
  | e
  | l (p : Pa)
  | r (p : Pa)
noncomputable def pathF (f : Nat) : Nat → Pa :=
  Nat.rec (motive := fun _ => Nat → Pa) (fun _ => .e)
    (fun _ ih k => match k with
      | 0 => .e
      | m + 1 => match m % 2 with
        | 0 => .l (ih (m / 2))
        | _ + 1 => .r (ih (m / 2))) f
noncomputable def path (k : Nat) : Pa := pathF k k
noncomputable def getP (p : Pa) : Bt α → Option α :=
  Pa.rec (motive := fun _ => Bt α → Option α) (fun t => Bt.rec (motive := fun _ => Option α) none (fun v _ _ _ _ => v) t)
    (fun _ ih t => Bt.rec (motive := fun _ => Option α) none (fun _ l _ _ _ => ih l) t)
    (fun _ ih t => Bt.rec (motive := fun _ => Option α) none (fun _ _ r _ _ => ih r) t) p
noncomputable def putP (p : Pa) : α → Bt α → Bt α :=
  Pa.rec (motive := fun _ => α → Bt α → Bt α) (fun x t => Bt.rec (motive := fun _ => Bt α) (.node (some x) .nil .nil) (fun _ l r _ _ => .node (some x) l r) t)
    (fun _ ih x t => Bt.rec (motive := fun _ => Bt α) (.node none (ih x .nil) .nil) (fun u l r _ _ => .node u (ih x l) r) t)
    (fun _ ih x t => Bt.rec (motive := fun _ => Bt α) (.node none .nil (ih x .nil)) (fun u l r _ _ => .node u l (ih x r)) t) p
noncomputable def delP (p : Pa) : Bt α → Bt α :=
  Pa.rec (motive := fun _ => Bt α → Bt α) (fun t => Bt.rec (motive := fun _ => Bt α) .nil (fun _ l r _ _ => .node none l r) t)
    (fun _ ih t => Bt.rec (motive := fun _ => Bt α) .nil (fun u l r _ _ => .node u (ih l) r) t)
    (fun _ ih t => Bt.rec (motive := fun _ => Bt α) .nil (fun u l r _ _ => .node u l (ih r)) t) p
noncomputable def Bt.get (t : Bt α) (k : Nat) : Option α := getP (path k) t
noncomputable def Bt.put (t : Bt α) (x : α) (k : Nat) : Bt α := putP (path k) x t
noncomputable def Bt.del (t : Bt α) (k : Nat) : Bt α := delP (path k) t
theorem pathF_l (f m : Nat) : pathF (f + 1) (2 * m + 1) = .l (pathF f m) := by
  show (match 2 * m % 2 with | 0 => Pa.l (pathF f (2 * m / 2)) | _ + 1 => .r (pathF f (2 * m / 2))) = _
  rw [show 2 * m % 2 = 0 by omega, show 2 * m / 2 = m by omega]
theorem pathF_r (f m : Nat) : pathF (f + 1) (2 * m + 2) = .r (pathF f m) := by
  show (match (2 * m + 1) % 2 with | 0 => Pa.l (pathF f ((2 * m + 1) / 2)) | _ + 1 => .r (pathF f ((2 * m + 1) / 2))) = _
  rw [show (2 * m + 1) % 2 = 1 by omega, show (2 * m + 1) / 2 = m by omega]
theorem half (m : Nat) : (∃ k, m = 2 * k) ∨ ∃ k, m = 2 * k + 1 := by
  rcases Nat.mod_two_eq_zero_or_one m with h | h
  · exact .inl ⟨m / 2, by omega⟩
  · exact .inr ⟨m / 2, by omega⟩
theorem key3 (k : Nat) : k = 0 ∨ (∃ m, k = 2 * m + 1) ∨ ∃ m, k = 2 * m + 2 := by
  rcases half k with ⟨m, rfl⟩ | ⟨m, rfl⟩
  · cases m with
    | zero => exact .inl rfl
    | succ m => exact .inr (.inr ⟨m, by omega⟩)
  · exact .inr (.inl ⟨m, rfl⟩)
theorem pathF_eq : ∀ (f g k : Nat), k ≤ f → k ≤ g → pathF f k = pathF g k
  | 0, g, k, h, _ => by
    obtain rfl : k = 0 := by omega
    cases g <;> rfl
  | f + 1, 0, k, _, h => by
    obtain rfl : k = 0 := by omega
    rfl
  | f + 1, g + 1, k, h1, h2 => by
    rcases key3 k with rfl | ⟨m, rfl⟩ | ⟨m, rfl⟩
    · rfl
    · rw [pathF_l, pathF_l, pathF_eq f g m (by omega) (by omega)]
    · rw [pathF_r, pathF_r, pathF_eq f g m (by omega) (by omega)]
theorem path_l (m : Nat) : path (2 * m + 1) = .l (path m) := by
  unfold path; rw [pathF_l, pathF_eq (2 * m) m m (by omega) (by omega)]
theorem path_r (m : Nat) : path (2 * m + 2) = .r (path m) := by
  unfold path; rw [pathF_r, pathF_eq (2 * m + 1) m m (by omega) (by omega)]
theorem Bt.get_nil (k : Nat) : (Bt.nil : Bt α).get k = none := by
  unfold Bt.get; cases path k <;> rfl
theorem Bt.get_0 (v : Option α) (l r : Bt α) : (Bt.node v l r).get 0 = v := rfl
theorem Bt.get_l (v : Option α) (l r : Bt α) (k : Nat) : (Bt.node v l r).get (2 * k + 1) = l.get k := by
  unfold Bt.get; rw [path_l]; rfl
theorem Bt.get_r (v : Option α) (l r : Bt α) (k : Nat) : (Bt.node v l r).get (2 * k + 2) = r.get k := by
  unfold Bt.get; rw [path_r]; rfl
theorem Bt.put_0 (v : Option α) (l r : Bt α) (x : α) : (Bt.node v l r).put x 0 = .node (some x) l r := rfl
theorem Bt.put_l (v : Option α) (l r : Bt α) (x : α) (k : Nat) : (Bt.node v l r).put x (2 * k + 1) = .node v (l.put x k) r := by
  unfold Bt.put; rw [path_l]; rfl
theorem Bt.put_r (v : Option α) (l r : Bt α) (x : α) (k : Nat) : (Bt.node v l r).put x (2 * k + 2) = .node v l (r.put x k) := by
  unfold Bt.put; rw [path_r]; rfl
theorem Bt.nput_l (x : α) (k : Nat) : (Bt.nil : Bt α).put x (2 * k + 1) = .node none (Bt.nil.put x k) .nil := by
  unfold Bt.put; rw [path_l]; rfl
theorem Bt.nput_r (x : α) (k : Nat) : (Bt.nil : Bt α).put x (2 * k + 2) = .node none .nil (Bt.nil.put x k) := by
  unfold Bt.put; rw [path_r]; rfl
theorem Bt.del_nil (k : Nat) : (Bt.nil : Bt α).del k = .nil := by
  unfold Bt.del; cases path k <;> rfl
theorem Bt.del_0 (v : Option α) (l r : Bt α) : (Bt.node v l r).del 0 = .node none l r := rfl
theorem Bt.del_l (v : Option α) (l r : Bt α) (k : Nat) : (Bt.node v l r).del (2 * k + 1) = .node v (l.del k) r := by
  unfold Bt.del; rw [path_l]; rfl
theorem Bt.del_r (v : Option α) (l r : Bt α) (k : Nat) : (Bt.node v l r).del (2 * k + 2) = .node v l (r.del k) := by
  unfold Bt.del; rw [path_r]; rfl
def kl (x : Nat × α) : Nat × α := (2 * x.1 + 1, x.2)
def kr (x : Nat × α) : Nat × α := (2 * x.1 + 2, x.2)
def hd0 : Option α → List (Nat × α)
  | some v => [(0, v)]
  | none => []
def Bt.list : Bt α → List (Nat × α)
  | .nil => []
  | .node v l r => hd0 v ++ (l.list.map kl ++ r.list.map kr)
theorem Bt.mem_list {t : Bt α} {k : Nat} {v : α} : (k, v) ∈ t.list ↔ t.get k = some v := by
  induction t generalizing k with
  | nil => simp [Bt.list, Bt.get_nil]
  | node u l r ihl ihr =>
    simp only [Bt.list, List.mem_append, List.mem_map]
    rcases key3 k with rfl | ⟨m, rfl⟩ | ⟨m, rfl⟩
    · rw [Bt.get_0]
      constructor
      · rintro (h | ⟨x, _, hx⟩ | ⟨x, _, hx⟩)
        · cases u <;> simp [hd0] at h; rw [h]
        · simp [kl] at hx
        · simp [kr] at hx
      · rintro rfl; left; simp [hd0]
    · rw [Bt.get_l, ← ihl]
      constructor
      · rintro (h | ⟨x, hm, hx⟩ | ⟨x, _, hx⟩)
        · cases u <;> simp [hd0] at h
        · simp only [kl, Prod.mk.injEq] at hx; obtain ⟨h1, rfl⟩ := hx; rw [show m = x.1 by omega]; exact hm
        · simp only [kr, Prod.mk.injEq] at hx; omega
      · exact fun h => .inr (.inl ⟨_, h, rfl⟩)
    · rw [Bt.get_r, ← ihr]
      constructor
      · rintro (h | ⟨x, _, hx⟩ | ⟨x, hm, hx⟩)
        · cases u <;> simp [hd0] at h
        · simp only [kl, Prod.mk.injEq] at hx; omega
        · simp only [kr, Prod.mk.injEq] at hx; obtain ⟨h1, rfl⟩ := hx; rw [show m = x.1 by omega]; exact hm
      · exact fun h => .inr (.inr ⟨_, h, rfl⟩)
theorem Bt.list_put {t : Bt α} {k : Nat} {v : α} (h : t.get k = some v) : ∃ A B, t.list = A ++ (k, v) :: B ∧ ∀ x, (t.put x k).list = A ++ (k, x) :: B := by
  induction t generalizing k with
  | nil => rw [Bt.get_nil] at h; cases h
  | node u l r ihl ihr =>
    rcases key3 k with rfl | ⟨m, rfl⟩ | ⟨m, rfl⟩
    · rw [Bt.get_0] at h; subst h
      exact ⟨[], l.list.map kl ++ r.list.map kr, rfl, fun x => by rw [Bt.put_0]; rfl⟩
    · rw [Bt.get_l] at h
      obtain ⟨A, B, h1, h2⟩ := ihl h
      refine ⟨hd0 u ++ A.map kl, B.map kl ++ r.list.map kr, ?_, fun x => ?_⟩
      · simp [Bt.list, h1, kl]
      · rw [Bt.put_l]; simp [Bt.list, h2, kl]
    · rw [Bt.get_r] at h
      obtain ⟨A, B, h1, h2⟩ := ihr h
      refine ⟨hd0 u ++ (l.list.map kl ++ A.map kr), B.map kr, ?_, fun x => ?_⟩
      · simp [Bt.list, h1, kr]
      · rw [Bt.put_r]; simp [Bt.list, h2, kr]
theorem Bt.list_del {t : Bt α} {k : Nat} {v : α} (h : t.get k = some v) : ∃ A B, t.list = A ++ (k, v) :: B ∧ (t.del k).list = A ++ B := by
  induction t generalizing k with
  | nil => rw [Bt.get_nil] at h; cases h
  | node u l r ihl ihr =>
    rcases key3 k with rfl | ⟨m, rfl⟩ | ⟨m, rfl⟩
    · rw [Bt.get_0] at h; subst h
      exact ⟨[], l.list.map kl ++ r.list.map kr, rfl, by rw [Bt.del_0]; rfl⟩
    · rw [Bt.get_l] at h
      obtain ⟨A, B, h1, h2⟩ := ihl h
      refine ⟨hd0 u ++ A.map kl, B.map kl ++ r.list.map kr, ?_, ?_⟩
      · simp [Bt.list, h1, kl]
      · rw [Bt.del_l]; simp [Bt.list, h2]
    · rw [Bt.get_r] at h
      obtain ⟨A, B, h1, h2⟩ := ihr h
      refine ⟨hd0 u ++ (l.list.map kl ++ A.map kr), B.map kr, ?_, ?_⟩
      · simp [Bt.list, h1, kr]
      · rw [Bt.del_r]; simp [Bt.list, h2]
theorem Bt.nput_list (v : α) (k : Nat) : ((Bt.nil : Bt α).put v k).list = [(k, v)] := by
  induction k using Nat.strongRecOn with
  | _ k ih =>
    rcases key3 k with rfl | ⟨m, rfl⟩ | ⟨m, rfl⟩
    · rfl
    · rw [Bt.nput_l]; simp [Bt.list, ih m (by omega), hd0, kl]
    · rw [Bt.nput_r]; simp [Bt.list, ih m (by omega), hd0, kr]
theorem Bt.list_add {t : Bt α} {k : Nat} (h : t.get k = none) (x : α) : (t.put x k).list.Perm ((k, x) :: t.list) := by
  induction t generalizing k with
  | nil => rw [Bt.nput_list]; exact .refl _
  | node u l r ihl ihr =>
    rcases key3 k with rfl | ⟨m, rfl⟩ | ⟨m, rfl⟩
    · rw [Bt.get_0] at h; subst h
      rw [Bt.put_0]; exact .refl _
    · rw [Bt.get_l] at h
      rw [Bt.put_l]
      simp only [Bt.list]
      have := (ihl h).map kl
      refine ((this.append_right _).append_left _).trans ?_
      rw [List.map_cons, List.cons_append]
      exact List.perm_middle
    · rw [Bt.get_r] at h
      rw [Bt.put_r]
      simp only [Bt.list]
      have := (ihr h).map kr
      refine ((this.append_left _).append_left _).trans ?_
      rw [List.map_cons, ← List.append_assoc]
      refine List.perm_middle.trans ?_
      rw [List.append_assoc]; exact .refl _
theorem Bt.get_put (t : Bt α) (x : α) (k j : Nat) : (t.put x k).get j = if j = k then some x else t.get j := by
  induction t generalizing k j with
  | nil =>
    have hl := Bt.nput_list x k
    by_cases e : j = k
    · subst e; rw [if_pos rfl, ← Bt.mem_list, hl]; simp
    · rw [if_neg e]
      rw [Bt.get_nil]
      cases h : ((Bt.nil : Bt α).put x k).get j with
      | none => rfl
      | some y => rw [← Bt.mem_list, hl] at h; simp at h; exact absurd h.1 e
  | node u l r ihl ihr =>
    rcases key3 k with rfl | ⟨m, rfl⟩ | ⟨m, rfl⟩ <;> rcases key3 j with rfl | ⟨i, rfl⟩ | ⟨i, rfl⟩ <;>
      simp only [Bt.put_0, Bt.put_l, Bt.put_r, Bt.get_0, Bt.get_l, Bt.get_r, ihl, ihr]
    all_goals (try (rw [if_neg (by omega)]))
    all_goals (try rfl)
    all_goals
      by_cases e : i = m
      · rw [if_pos e, if_pos (by omega)]
      · rw [if_neg e, if_neg (by omega)]
theorem Bt.get_del (t : Bt α) (k j : Nat) : (t.del k).get j = if j = k then none else t.get j := by
  induction t generalizing k j with
  | nil => rw [Bt.del_nil, Bt.get_nil]; split <;> rfl
  | node u l r ihl ihr =>
    rcases key3 k with rfl | ⟨m, rfl⟩ | ⟨m, rfl⟩ <;> rcases key3 j with rfl | ⟨i, rfl⟩ | ⟨i, rfl⟩ <;>
      simp only [Bt.del_0, Bt.del_l, Bt.del_r, Bt.get_0, Bt.get_l, Bt.get_r, ihl, ihr]
    all_goals (try (rw [if_neg (by omega)]))
    all_goals (try rfl)
    all_goals
      by_cases e : i = m
      · rw [if_pos e, if_pos (by omega)]
      · rw [if_neg e, if_neg (by omega)]
theorem Bt.keys_nodup (t : Bt α) : (t.list.map Prod.fst).Nodup := by
  induction t with
  | nil => simp [Bt.list]
  | node u l r ihl ihr =>
    simp only [Bt.list, List.map_append, List.map_map]
    have e1 : (Prod.fst ∘ kl : Nat × α → Nat) = (fun k => 2 * k + 1) ∘ Prod.fst := rfl
    have e2 : (Prod.fst ∘ kr : Nat × α → Nat) = (fun k => 2 * k + 2) ∘ Prod.fst := rfl
    rw [e1, e2, ← List.map_map, ← List.map_map]
    have n1 : ((l.list.map Prod.fst).map (fun k => 2 * k + 1)).Nodup := List.Pairwise.map _ (fun a b h => by omega) ihl
    have n2 : ((r.list.map Prod.fst).map (fun k => 2 * k + 2)).Nodup := List.Pairwise.map _ (fun a b h => by omega) ihr
    refine List.nodup_append.2 ⟨by cases u <;> simp [hd0], List.nodup_append.2 ⟨n1, n2, ?_⟩, ?_⟩
    · intro a ha b hb
      obtain ⟨x, _, rfl⟩ := List.mem_map.1 ha
      obtain ⟨y, _, rfl⟩ := List.mem_map.1 hb
      omega
    · intro a ha b hb
      have ha : a = 0 := by cases u <;> simp [hd0] at ha; exact ha
      rcases List.mem_append.1 hb with hb | hb
      · obtain ⟨y, _, rfl⟩ := List.mem_map.1 hb; omega
      · obtain ⟨y, _, rfl⟩ := List.mem_map.1 hb; omega
end Go.Ev
namespace Go.Ev
open Go.Chi
variable {G : Nat}
def plainV : Value → Prop
  | .int _ _ => True
  | .bool _ => True
  | .string _ => True
  | _ => False
structure GoodQ (q : Nat → Value) : Prop where
  pl : ∀ i, plainV (q i)
  a : ∃ n : Int, q 0 = .int .i64 n ∧ 1 ≤ n ∧ n ≤ 100
  b : ∃ n : Int, q 1 = .int .i64 n ∧ 1 ≤ n ∧ n ≤ 10000
  c : ∃ x y z u : Int, q 2 = .int .i64 x ∧ q 3 = .int .i64 y ∧ q 4 = .int .i64 z ∧ q 5 = .int .i64 u ∧ ¬ (1 ≤ y ∧ y ≤ 8 ∧ 0 ≤ x ∧ x ≤ y - 1 ∧ 1 ≤ z ∧ z ≤ 100 ∧ 1 ≤ u ∧ u ≤ 10000)
def q0 (a b x y z u : Int) (i : Nat) : Value := .int .i64 (match i with | 0 => a | 1 => b | 2 => x | 3 => y | 4 => z | 5 => u | _ => 0)
theorem q0_ok {a b x y z u : Int} (h1 : 1 ≤ a ∧ a ≤ 100) (h2 : 1 ≤ b ∧ b ≤ 10000) (h3 : ¬ (1 ≤ y ∧ y ≤ 8 ∧ 0 ≤ x ∧ x ≤ y - 1 ∧ 1 ≤ z ∧ z ≤ 100 ∧ 1 ≤ u ∧ u ≤ 10000)) : GoodQ (q0 a b x y z u) :=
  ⟨fun _ => trivial, ⟨a, rfl, h1⟩, ⟨b, rfl, h2⟩, ⟨x, y, z, u, rfl, rfl, rfl, rfl, h3⟩⟩
structure Rn (G : Nat) where
  f : Nat → Nat
  hg : ∀ n, n < G → f n = n
  z : Nat → Nat
  t : Nat → List Value
  q : Nat → Value
  hq : GoodQ q
  lt : Nat → Array Value × FuncId
@[irreducible] def opn : Nat := 18446744073709551616
def rna (r : Rn G) (a : Addr) : Addr := ⟨r.f a.block, a.off, a.spot⟩
def rcap (r : Rn G) (a : Option Addr) (c : Nat) : Nat :=
  match a with
  | some a => if c < opn then c else r.z a.block - (c - opn)
  | none => c
def rfn (r : Rn G) : Fn → Fn
  | .yield l => .yield (r.f l)
  | f => f
mutual
def ren (r : Rn G) : Value → Value
  | .pointer a => .pointer (a.map (rna r))
  | .slice a n c => .slice (a.map (rna r)) n (rcap r a c)
  | .map b => .map (b.map r.f)
  | .func fn first cap => .func (rfn r fn) (renA r first) (renA r cap)
  | .iface t v => .iface t (ren r v)
  | .agg cs => .agg (renA r cs)
  | .tuple vs => .tuple (renA r vs)
  | .float _ i => r.q i
  | .bool b => .bool b
  | .int k n => .int k n
  | .complex k x y => .complex k x y
  | .string s => .string s
  | .chan c => .chan c
  | .nilFunc => .nilFunc
  | .nilIface => .nilIface
def renA (r : Rn G) : Array Value → Array Value
  | ⟨l⟩ => ⟨renL r l⟩
def renL (r : Rn G) : List Value → List Value
  | [] => []
  | v :: l => ren r v :: renL r l
end
theorem renL_map (r : Rn G) : ∀ l, renL r l = l.map (ren r)
  | [] => by simp [renL]
  | v :: l => by simp [renL, renL_map r l]
theorem renA_eq (r : Rn G) (l : List Value) : renA r ⟨l⟩ = ⟨l.map (ren r)⟩ := by rw [renA, renL_map]
theorem renA_toList (r : Rn G) (l : Array Value) : (renA r l).toList = l.toList.map (ren r) := by cases l; rw [renA_eq]
def clo : Value → Bool
  | .bool _ => true
  | .int _ _ => true
  | .string _ => true
  | .pointer none => true
  | .slice none _ _ => true
  | .map none => true
  | .func (.func _) ⟨[]⟩ ⟨[]⟩ => true
  | .nilFunc => true
  | .nilIface => true
  | _ => false
def cloV : Value → Bool
  | .agg ⟨l⟩ => l.all clo
  | .tuple ⟨l⟩ => l.all clo
  | .iface _ (.agg ⟨l⟩) => l.all clo
  | .iface _ v => clo v
  | v => clo v
theorem clo_ren {r : Rn G} {v : Value} (h : clo v = true) : ren r v = v := by
  unfold clo at h
  split at h <;> first | (cases h; done) | simp [ren, rcap, renA, renL, rfn]
theorem cloL_ren {r : Rn G} : ∀ {l : List Value}, l.all clo = true → l.map (ren r) = l
  | [], _ => rfl
  | v :: l, h => by
    simp only [List.all_cons, Bool.and_eq_true] at h
    rw [List.map_cons, clo_ren h.1, cloL_ren h.2]
theorem cloV_ren {r : Rn G} {v : Value} (h : cloV v = true) : ren r v = v := by
  unfold cloV at h
  split at h
  · rw [ren, renA_eq, cloL_ren h]
  · rw [ren, renA_eq, cloL_ren h]
  · rw [ren, ren, renA_eq, cloL_ren h]
  · rw [ren, clo_ren h]
  · exact clo_ren h
inductive Kd where
  | s
  | p
abbrev KdT : Kd → Type
  | .s => List UInt8
  | .p => Int × Int × List UInt8
instance kdDec : (kd : Kd) → DecidableEq (KdT kd)
  | .s => inferInstanceAs (DecidableEq (List UInt8))
  | .p => inferInstanceAs (DecidableEq (Int × Int × List UInt8))
def encK : (kd : Kd) → KdT kd → Value
  | .s, l => .string ⟨⟨l⟩⟩
  | .p, x => .agg ⟨[.int .i64 x.1, .int .i64 x.2.1, .string ⟨⟨x.2.2⟩⟩]⟩
inductive NObj where
  | cells (cs : List Value) (e : TypeId) (op : Option Nat)
  | frz (cs : List Value) (e : TypeId) (s k : Nat)
  | other (o : Obj)
  | map (k : IntKind) (es : KV Int) (clock : Nat)
  | kmap (kd : Kd) (es : KV (KdT kd)) (clock : Nat)
  | loop (st : LoopState) (pe : Option Code) (n : Nat) (tm : Bt Value) (ps : Array Tmp) (assign body : Code) (D : Nat)
def renD (r : Rn G) (d : Deferred) : Deferred :=
  ⟨match d.target with
    | .fn fn cap => .fn (rfn r fn) (renA r cap)
    | .collected b => .collected (r.f b)
    | t => t, renA r d.args⟩
def renO (r : Rn G) : Obj → Obj
  | .deferred ds => .deferred (ds.map (·.map (renD r)))
  | .mapIter m a b c => .mapIter (m.map r.f) a b c
  | o => o
def renE {κ : Type} (r : Rn G) (es : KV κ) : KV κ := es.map fun x => (x.1, ren r x.2.1, x.2.2)
def robj (r : Rn G) (n : Nat) : NObj → Obj
  | .cells cs e none => .cells ⟨cs.map (ren r)⟩ e (0, 0)
  | .cells cs e (some _) => .cells ⟨cs.map (ren r) ++ r.t n⟩ e (0, 0)
  | .frz cs e _ k => .cells ⟨cs.map (ren r) ++ r.t n⟩ e (0, k)
  | .other o => renO r o
  | .map k es c => .map ⟨ents (fun i => .int k i) (renE r es)⟩ c
  | .kmap kd es c => .map ⟨ents (encK kd) (renE r es)⟩ c
  | .loop st pe _ _ ps assign body D => .loop { state := st, pending := pe, fn := (r.lt n).2, tmps := (r.lt n).1, params := ps, assign, body, defers := r.f D }
abbrev Heap := Bt NObj
def layL (r : Rn G) (l : List (Nat × NObj)) : HL := l.map fun x => (r.f x.1, robj r x.1 x.2)
def lay (r : Rn G) (H : Heap) : HL := layL r H.list
structure agree (nx : Nat) (r r' : Rn G) : Prop where
  f : ∀ n, n < nx → r'.f n = r.f n
  z : ∀ n, n < nx → r'.z n = r.z n
  t : ∀ n, n < nx → r'.t n = r.t n
  q : r'.q = r.q
  l : ∀ n, n < nx → r'.lt n = r.lt n
theorem agree.refl (nx : Nat) (r : Rn G) : agree nx r r := ⟨fun _ _ => rfl, fun _ _ => rfl, fun _ _ => rfl, rfl, fun _ _ => rfl⟩
theorem agree.trans {a b c : Rn G} {n m : Nat} (h : agree n a b) (k : agree m b c) (hm : n ≤ m) : agree n a c :=
  ⟨fun x hx => (k.f x (by omega)).trans (h.f x hx), fun x hx => (k.z x (by omega)).trans (h.z x hx), fun x hx => (k.t x (by omega)).trans (h.t x hx), k.q.trans h.q, fun x hx => (k.l x (by omega)).trans (h.l x hx)⟩
theorem agree.mono {a b : Rn G} {n m : Nat} (h : agree m a b) (hm : n ≤ m) : agree n a b :=
  ⟨fun x hx => h.f x (by omega), fun x hx => h.z x (by omega), fun x hx => h.t x (by omega), h.q, fun x hx => h.l x (by omega)⟩
def Sc (G nx : Nat) (v : Value) : Prop := ∀ r r' : Rn G, agree nx r r' → ren r' v = ren r v
theorem Sc.mono {n m : Nat} {v : Value} (h : Sc G n v) (hm : n ≤ m) : Sc G m v := fun r r' ha => h r r' (ha.mono hm)
theorem Sc.clo {n : Nat} {v : Value} (h : cloV v = true) : Sc G n v := fun r r' _ => by rw [cloV_ren h, cloV_ren h]
def ScL (G nx : Nat) (l : List Value) : Prop := ∀ v ∈ l, Sc G nx v
theorem ScL.map {nx : Nat} {l : List Value} (h : ScL G nx l) {r r' : Rn G} (ha : agree nx r r') : l.map (ren r') = l.map (ren r) :=
  List.map_congr_left fun v hv => h v hv r r' ha
def ScT (G nx : Nat) (tm : Bt Value) : Prop := ∀ k v, tm.get k = some v → Sc G nx v
theorem ScT.mono {n m : Nat} {tm : Bt Value} (h : ScT G n tm) (hm : n ≤ m) : ScT G m tm := fun k v e => (h k v e).mono hm
def ScO (G nx : Nat) : NObj → Prop
  | .cells cs _ _ => ScL G nx cs
  | .frz cs _ _ _ => ScL G nx cs
  | .other o => ∀ r r' : Rn G, agree nx r r' → renO r' o = renO r o
  | .map _ es _ => ∀ x ∈ es, Sc G nx x.2.1
  | .kmap _ es _ => ∀ x ∈ es, Sc G nx x.2.1
  | .loop _ _ _ tm _ _ _ D => ScT G nx tm ∧ D < nx
theorem ScL.of_map {nx : Nat} {l : List Value} (h : ∀ r r' : Rn G, agree nx r r' → l.map (ren r') = l.map (ren r)) : ScL G nx l :=
  fun v hv r r' ha => List.map_inj_left.1 (h r r' ha) v hv
theorem ScL.mono {n m : Nat} {l : List Value} (h : ScL G n l) (hm : n ≤ m) : ScL G m l := fun v hv => (h v hv).mono hm
theorem ScO.mono {n m : Nat} {o : NObj} (h : ScO G n o) (hm : n ≤ m) : ScO G m o := by
  cases o with
  | cells cs e op => exact ScL.mono h hm
  | frz cs e s k => exact ScL.mono h hm
  | other o => exact fun r r' ha => h r r' (ha.mono hm)
  | map k es c => exact fun x hx => (h x hx).mono hm
  | kmap k es c => exact fun x hx => (h x hx).mono hm
  | loop => exact ⟨h.1.mono hm, Nat.lt_of_lt_of_le h.2 hm⟩
theorem ScO.robj {nx n : Nat} {o : NObj} (h : ScO G nx o) (hn : n < nx) {r r' : Rn G} (ha : agree nx r r') : robj r' n o = robj r n o := by
  cases o with
  | cells cs e op =>
    have := ScL.map h ha
    cases op with
    | none => simp only [Ev.robj, this]
    | some s => simp only [Ev.robj, this, ha.t n hn]
  | frz cs e s k =>
    have := ScL.map h ha
    simp only [Ev.robj, this, ha.t n hn]
  | other o => exact h r r' ha
  | map k es c =>
    have : renE r' es = renE r es := List.map_congr_left fun x hx => by rw [h x hx r r' ha]
    simp only [Ev.robj, this]
  | kmap k es c =>
    have : renE r' es = renE r es := List.map_congr_left fun x hx => by rw [h x hx r r' ha]
    simp only [Ev.robj, this]
  | loop => simp only [Ev.robj, ha.l n hn, ha.f _ h.2]
structure ScH (G nx : Nat) (H : Heap) : Prop where
  lt : ∀ n o, H.get n = some o → n < nx
  o : ∀ n o, H.get n = some o → ScO G nx o
theorem ScH.none {nx : Nat} {H : Heap} (h : ScH G nx H) {n : Nat} (hn : nx ≤ n) : H.get n = none := by
  cases e : H.get n with
  | none => rfl
  | some o => have := h.lt _ _ e; omega
theorem ScH.mono {n m : Nat} {H : Heap} (h : ScH G n H) (hm : n ≤ m) : ScH G m H := ⟨fun k o e => by have := h.lt k o e; omega, fun k o e => (h.o k o e).mono hm⟩
theorem ScH.put {nx : Nat} {H : Heap} (h : ScH G nx H) {n : Nat} {o : NObj} (hn : n < nx) (ho : ScO G nx o) : ScH G nx (H.put o n) := by
  constructor <;> intro k x e <;> rw [Bt.get_put] at e <;> split at e
  · omega
  · exact h.lt k x e
  · cases e; exact ho
  · exact h.o k x e
theorem ScH.del {nx : Nat} {H : Heap} (h : ScH G nx H) (n : Nat) : ScH G nx (H.del n) := by
  constructor <;> intro k x e <;> rw [Bt.get_del] at e <;> split at e
  · cases e
  · exact h.lt k x e
  · cases e
  · exact h.o k x e
structure Rel (M : Mem) (L : HL) (r : Rn G) (H : Heap) (w : World) : Prop where
  hp : Hp M (lay r H ++ L) w
  op : ∀ n cs e s, H.get n = some (.cells cs e (some s)) → cs.length + (r.t n).length = r.z n * s ∧ 0 < s
  fr : ∀ n cs e s k, H.get n = some (.frz cs e s k) → cs.length + (r.t n).length = r.z n * s ∧ 0 < s
  lp : ∀ n st pe m tm ps asn b D, H.get n = some (.loop st pe m tm ps asn b D) → (r.lt n).1.size = m ∧ ∀ k v, tm.get k = some v → (r.lt n).1[k]? = some (ren r v)
theorem lay_get {r : Rn G} {H : Heap} {n : Nat} {o : NObj} (h : H.get n = some o) : (r.f n, robj r n o) ∈ lay r H :=
  List.mem_map.2 ⟨(n, o), Bt.mem_list.2 h, rfl⟩
theorem lay_agree {nx : Nat} {r r' : Rn G} {H : Heap} (hs : ScH G nx H) (ha : agree nx r r') : lay r' H = lay r H :=
  List.map_congr_left fun x hx => by
    have hg := Bt.mem_list.1 hx
    rw [ha.f _ (hs.lt _ _ hg), (hs.o _ _ hg).robj (hs.lt _ _ hg) ha]
theorem lay_upd {r : Rn G} {H : Heap} {n : Nat} {o o' : NObj} (h : H.get n = some o) : Upd (lay r H) (r.f n) (robj r n o) (robj r n o') (lay r (H.put o' n)) := by
  obtain ⟨A, B, h1, h2⟩ := Bt.list_put h
  refine ⟨layL r A, layL r B, ?_, ?_⟩
  · simp [lay, layL, h1]
  · simp [lay, layL, h2]
theorem upd_right {L L' N : HL} {b : Nat} {o o' : Obj} (h : Upd L b o o' L') : Upd (L ++ N) b o o' (L' ++ N) := by
  obtain ⟨A, B, rfl, rfl⟩ := h
  exact ⟨A, B ++ N, by simp, by simp⟩
theorem lay_add {r : Rn G} {H : Heap} {n : Nat} {o : NObj} (h : H.get n = none) : (lay r (H.put o n)).Perm ((r.f n, robj r n o) :: lay r H) :=
  (Bt.list_add h o).map _
theorem lay_del {r : Rn G} {H : Heap} {n : Nat} {o : NObj} (h : H.get n = some o) : (lay r H).Perm ((r.f n, robj r n o) :: lay r (H.del n)) := by
  obtain ⟨A, B, h1, h2⟩ := Bt.list_del h
  simp only [lay, layL, h1, h2, List.map_append, List.map_cons]
  exact List.perm_middle
def SeesT (r : Rn G) (tm : Bt Value) (a : Act) : Prop := ∀ k v, tm.get k = some v → a.tmps[k]? = some (ren r v)
def envOf (r : Rn G) (tm : Bt Value) : Env := tm.list.map fun x => (x.1, ren r x.2)
theorem lks_mem : ∀ {σ : Env} {k : Nat} {v : Value}, lks σ k = some v → (k, v) ∈ σ
  | [], _, _, h => by cases h
  | (t, u) :: σ, k, v, h => by
    rw [lks_cons] at h
    split at h
    · rename_i e; cases h; subst e; exact List.mem_cons_self
    · exact List.mem_cons_of_mem _ (lks_mem h)
theorem lks_of_mem : ∀ {σ : Env} {k : Nat} {v : Value}, (σ.map Prod.fst).Nodup → (k, v) ∈ σ → lks σ k = some v
  | [], _, _, _, h => by cases h
  | (t, u) :: σ, k, v, hn, h => by
    rw [lks_cons]
    rw [List.map_cons, List.nodup_cons] at hn
    rcases List.mem_cons.1 h with h | h
    · cases h; rw [if_pos rfl]
    · rw [if_neg (fun e => hn.1 (by subst e; exact List.mem_map.2 ⟨_, h, rfl⟩))]; exact lks_of_mem hn.2 h
theorem envOf_get (r : Rn G) (tm : Bt Value) (k : Nat) : lks (envOf r tm) k = (tm.get k).map (ren r) := by
  have hn : ((envOf r tm).map Prod.fst).Nodup := by
    have e : (envOf r tm).map Prod.fst = tm.list.map Prod.fst := by simp [envOf, Function.comp_def]
    rw [e]; exact Bt.keys_nodup tm
  cases h : tm.get k with
  | some v => exact lks_of_mem hn (List.mem_map.2 ⟨(k, v), Bt.mem_list.2 h, rfl⟩)
  | none =>
    cases h2 : lks (envOf r tm) k with
    | none => rfl
    | some u =>
      obtain ⟨x, hx, he⟩ := List.mem_map.1 (lks_mem h2)
      cases he
      have := Bt.mem_list.1 hx
      rw [h] at this; cases this
theorem SeesT.sees {r : Rn G} {tm : Bt Value} {a : Act} (h : SeesT r tm a) : Sees (envOf r tm) [] a :=
  ⟨fun t v e => by
    rw [envOf_get] at e
    cases hg : tm.get t with
    | none => rw [hg] at e; cases e
    | some u => rw [hg] at e; cases e; exact h _ _ hg, fun t p v e => by simp [lkd] at e⟩
theorem envOf_agree {nx : Nat} {r r' : Rn G} {tm : Bt Value} (hs : ScT G nx tm) (ha : agree nx r r') : envOf r' tm = envOf r tm :=
  List.map_congr_left fun x hx => by rw [hs _ _ (Bt.mem_list.1 hx) r r' ha]
theorem SeesT.agree {nx : Nat} {r r' : Rn G} {tm : Bt Value} {a : Act} (h : SeesT r tm a) (hs : ScT G nx tm) (ha : agree nx r r') : SeesT r' tm a :=
  fun k v e => by rw [hs k v e r r' ha]; exact h k v e
theorem SeesT.put {r : Rn G} {tm : Bt Value} {a : Act} (h : SeesT r tm a) {d : Nat} (hd : d < a.tmps.size) {v u : Value} (hu : u = ren r v) : SeesT r (tm.put v d) (a.put (some d) u) := fun k x e => by
  rw [Bt.get_put] at e
  show (a.tmps.setIfInBounds d u)[k]? = _
  by_cases he : k = d
  · subst he
    rw [if_pos rfl] at e; cases e
    simp [hd, hu]
  · rw [if_neg he] at e
    rw [Array.getElem?_setIfInBounds_ne (fun x => he x.symm)]; exact h _ _ e
theorem ScT.put {nx : Nat} {tm : Bt Value} (h : ScT G nx tm) {v : Value} (hv : Sc G nx v) (d : Nat) : ScT G nx (tm.put v d) := fun k x e => by
  rw [Bt.get_put] at e
  split at e
  · cases e; exact hv
  · exact h k x e
noncomputable def evTmp (t : Nat) : Nat → Bt Value → Option Value := fun _ tm => tm.get t
noncomputable def evCon (v : Value) : Nat → Bt Value → Option Value := fun _ _ => match cloV v with | true => some v | false => none
noncomputable def evGlo (g : Nat) : Nat → Bt Value → Option Value := fun G _ => match Nat.blt g G with | true => some (.pointer (some ⟨g, 0, none⟩)) | false => none
noncomputable def evFun (f : Nat) : Nat → Bt Value → Option Value := fun _ _ => some (.func (.func f) ⟨[]⟩ ⟨[]⟩)
noncomputable def evT (G : Nat) (tm : Bt Value) (x : Operand) : Option Value := @Operand.rec (fun _ => Nat → Bt Value → Option Value) evTmp evCon evGlo evFun x G tm
theorem evT_tmp (G : Nat) (tm : Bt Value) (t : Nat) : evT G tm (.tmp t) = tm.get t := rfl
theorem evT_con (G : Nat) (tm : Bt Value) (v : Value) : evT G tm (.const v) = match cloV v with | true => some v | false => none := rfl
theorem evT_glo (G : Nat) (tm : Bt Value) (g : Nat) : evT G tm (.global g) = match Nat.blt g G with | true => some (.pointer (some ⟨g, 0, none⟩)) | false => none := rfl
theorem evT_fun (G : Nat) (tm : Bt Value) (f : Nat) : evT G tm (.func f) = some (.func (.func f) ⟨[]⟩ ⟨[]⟩) := rfl
noncomputable def evsT (G : Nat) (tm : Bt Value) : List Operand → Option (List Value)
  | [] => some []
  | x :: l => match evT G tm x with
    | some v => match evsT G tm l with
      | some vs => some (v :: vs)
      | none => none
    | none => none
theorem evT_ok {tm : Bt Value} {r : Rn G} {x : Operand} {v : Value} (h : evT G tm x = some v) : ev (envOf r tm) [] [] x = some (ren r v) := by
  cases x with
  | tmp t => simp only [evT_tmp, evT_con, evT_glo, evT_fun] at h; simp only [ev, lka, lkd, envOf_get, h, Option.map_some]
  | const u =>
    simp only [evT_tmp, evT_con, evT_glo, evT_fun] at h
    split at h
    · rename_i hc; cases h; rw [cloV_ren hc]; rfl
    · cases h
  | global g =>
    simp only [evT_tmp, evT_con, evT_glo, evT_fun] at h
    split at h
    · rename_i hb
      cases h
      simp only [ev, ren, Option.map_some, rna, r.hg _ (Nat.blt_eq.mp hb)]
    · cases h
  | func f => simp only [evT_tmp, evT_con, evT_glo, evT_fun] at h; cases h; rfl
theorem evsT_ok {tm : Bt Value} {r : Rn G} : ∀ {l : List Operand} {vs : List Value}, evsT G tm l = some vs → evs (envOf r tm) [] [] l = some (vs.map (ren r))
  | [], vs, h => by simp only [evsT] at h; cases h; rfl
  | x :: l, vs, h => by
    simp only [evsT] at h
    split at h
    · rename_i v hv
      split at h
      · rename_i us hus
        cases h
        simp only [evs, evT_ok hv, evsT_ok hus, List.map_cons]
      · cases h
    · cases h
theorem Sc.ptrG {nx g : Nat} (h : g < nx) : Sc G nx (.pointer (some ⟨g, 0, none⟩)) := fun r r' ha => by simp [ren, rna, ha.f g h]
theorem evT_sc {nx : Nat} {tm : Bt Value} (hs : ScT G nx tm) (hG : G ≤ nx) {x : Operand} {v : Value} (h : evT G tm x = some v) : Sc G nx v := by
  cases x with
  | tmp t => exact hs _ _ h
  | const u =>
    simp only [evT_tmp, evT_con, evT_glo, evT_fun] at h
    split at h
    · rename_i hc; cases h; exact Sc.clo hc
    · cases h
  | global g =>
    simp only [evT_tmp, evT_con, evT_glo, evT_fun] at h
    split at h
    · rename_i hb; cases h; exact Sc.ptrG (by have := Nat.blt_eq.mp hb; omega)
    · cases h
  | func f => simp only [evT_tmp, evT_con, evT_glo, evT_fun] at h; cases h; exact Sc.clo rfl
end Go.Ev
namespace Go.Ev
open Go.Chi
variable {G : Nat}
theorem tkE_of : ∀ {n : Nat} {l : List Value}, n ≤ l.length → tkE n l = some (l.take n)
  | 0, _, _ => by simp [tkE]
  | n + 1, x :: l, h => by simp only [tkE, tkE_of (n := n) (l := l) (by simpa using h), List.take_succ_cons]
  | n + 1, [], h => by simp at h
theorem segE_of {cs : List Value} {off n : Nat} (h : off + n ≤ cs.length ∨ n = 0) : segE cs off n = some (seg cs off n) := by
  unfold segE
  split
  · rename_i h0
    have h0 := Nat.eq_of_beq_eq_true h0
    subst h0
    split
    · rename_i hn
      have hn := Nat.eq_of_beq_eq_true hn
      subst hn; simp [seg]
    · rw [tkE_of (by omega)]; simp [seg]
  · rcases h with h | rfl
    · rw [tkE_of (by simp; omega)]; rfl
    · simp [tkE, seg]
theorem segE_ren {f : Value → Value} {cs vs tl : List Value} {off n : Nat} (h : segE cs off n = some vs) : segE (cs.map f ++ tl) off n = some (vs.map f) := by
  obtain ⟨rfl, hb⟩ := segE_ok h
  rw [segE_of (by rcases hb with hb | hb <;> simp <;> omega)]
  rcases hb with hb | rfl
  · simp only [seg, List.map_take, List.map_drop]
    rw [List.drop_append_of_le_length (by simp; omega), List.take_append_of_le_length (by simp; omega)]
  · simp [seg]
theorem partL_ren {T : TT} {r : Rn G} {t : Nat} {cs tl : List Value} {off : Nat} {v : Value} (h : partL T t cs off = some v) : partL T t (cs.map (ren r) ++ tl) off = some (ren r v) := by
  unfold partL at h ⊢
  split at h
  · split at h
    · split at h
      · rename_i vs hvs
        cases h
        rw [segE_ren hvs]
        simp only [ren, renA_eq]
      · cases h
    · cases h
  · rw [List.getElem?_append_left (by simpa using (List.getElem?_eq_some_iff.1 h).1), List.getElem?_map, h]; rfl
  · cases h
theorem partL_ren0 {T : TT} {r : Rn G} {t : Nat} {cs : List Value} {off : Nat} {v : Value} (h : partL T t cs off = some v) : partL T t (cs.map (ren r)) off = some (ren r v) := by
  have := partL_ren (r := r) (tl := []) h
  rwa [List.append_nil] at this
theorem plainV_cells {v : Value} (h : plainV v) : cellsL v = [v] := by cases v <;> first | rfl | exact h.elim
theorem cellsL_ren (r : Rn G) (v : Value) : cellsL (ren r v) = (cellsL v).map (ren r) := by
  cases v <;> simp only [ren, cellsL, List.map_cons, List.map_nil, renA_toList]
  exact plainV_cells (r.hq.pl _)
theorem putE_ren {f : Value → Value} : ∀ {vs cs rs : List Value}, putE vs cs = some rs → putE (vs.map f) (cs.map f) = some (rs.map f)
  | [], cs, rs, h => by simp only [putE] at h; cases h; simp [putE]
  | v :: vs, c :: cs, rs, h => by
    simp only [putE] at h
    split at h
    · rename_i x hx
      cases h
      simp only [List.map_cons, putE, putE_ren hx]
    · cases h
  | _ :: _, [], rs, h => by simp [putE] at h
theorem setE_ren {f : Value → Value} : ∀ {cs : List Value} {k : Nat} {vs rs : List Value}, setE cs k vs = some rs → setE (cs.map f) k (vs.map f) = some (rs.map f)
  | cs, 0, vs, rs, h => by
    unfold setE at h ⊢
    simp only [List.length_map]
    split at h
    · cases h; rfl
    · exact putE_ren h
  | c :: cs, k + 1, vs, rs, h => by
    unfold setE at h
    split at h
    · rename_i x hx
      cases h
      simp only [List.map_cons, setE, setE_ren hx]
    · cases h
  | [], _ + 1, _, rs, h => by simp [setE] at h
theorem setE_app {cs vs rs tl : List Value} {k : Nat} (h : setE cs k vs = some rs) : setSeg (cs ++ tl) k vs = rs ++ tl := by
  obtain ⟨rfl, hl⟩ := setE_ok h
  simp only [setSeg]
  rw [List.take_append_of_le_length (by omega), List.drop_append_of_le_length (by omega)]
  simp [List.append_assoc]
def renP (r : Rn G) (x : Nat × Value) : Nat × Value := (x.1, ren r x.2)
theorem fillL_ren {T : TT} {r : Rn G} {fs : List Field} : ∀ {ps : List (Nat × Value)} {zs cs : List Value}, fillL T fs zs ps = some cs → fillL T fs (zs.map (ren r)) (ps.map (renP r)) = some (cs.map (ren r))
  | [], zs, cs, h => by simp only [fillL] at h; cases h; simp [fillL]
  | (i, v) :: ps, zs, cs, h => by
    simp only [fillL] at h
    simp only [List.map_cons, renP, fillL]
    split at h
    · split at h
      · split at h
        · rename_i hb
          split at h
          · rename_i zs' hz
            rw [cellsL_ren, List.length_map, hb, setE_ren hz]
            exact fillL_ren h
          · cases h
        · cases h
      · cases h
    · cases h
noncomputable def evPartsT (G : Nat) (tm : Bt Value) : List (Nat × Operand) → Option (List (Nat × Value))
  | [] => some []
  | (i, x) :: l => match evT G tm x with
    | some v => match evPartsT G tm l with
      | some vs => some ((i, v) :: vs)
      | none => none
    | none => none
theorem evPartsT_ok {tm : Bt Value} {r : Rn G} : ∀ {l : List (Nat × Operand)} {vs : List (Nat × Value)}, evPartsT G tm l = some vs → evParts (envOf r tm) [] [] l = some (vs.map (renP r))
  | [], vs, h => by simp only [evPartsT] at h; cases h; rfl
  | (i, x) :: l, vs, h => by
    simp only [evPartsT] at h
    split at h
    · rename_i v hv
      split at h
      · rename_i us hus
        cases h
        simp only [evParts, evT_ok hv, evPartsT_ok hus, List.map_cons, renP]
      · cases h
    · cases h
theorem foldr_eqv {T : TT} {r : Rn G} {n : Nat} (ih : ∀ t x y b, eqv T n t x y = some b → eqv T n t (ren r x) (ren r y) = some b) {xs ys : List Value} : ∀ {fs : List Field} {b : Bool},
    fs.foldr (fun f r => match isBlank f.name with
          | true => r
          | false => match partL T f.type xs f.offset, partL T f.type ys f.offset with
            | some a, some b => match eqv T n f.type a b with
              | some e => match r with | some r => some (e && r) | none => none
              | none => none
            | _, _ => none) (some true) = some b →
    fs.foldr (fun f r' => match isBlank f.name with
          | true => r'
          | false => match partL T f.type (xs.map (ren r)) f.offset, partL T f.type (ys.map (ren r)) f.offset with
            | some a, some b => match eqv T n f.type a b with
              | some e => match r' with | some r => some (e && r) | none => none
              | none => none
            | _, _ => none) (some true) = some b
  | [], b, h => h
  | f :: fs, b, h => by
    simp only [List.foldr_cons] at h ⊢
    split at h
    · exact foldr_eqv ih h
    · split at h
      · rename_i u v hu hv
        rw [partL_ren0 hu, partL_ren0 hv]
        simp only
        split at h
        · rename_i e he
          rw [ih _ _ _ _ he]
          simp only
          split at h
          · rename_i c hc
            rw [foldr_eqv ih hc]
            exact h
          · cases h
        · cases h
      · cases h
theorem eqv_ren {T : TT} {r : Rn G} : ∀ (n : Nat) (t : Nat) (x y : Value) (b : Bool), eqv T n t x y = some b → eqv T n t (ren r x) (ren r y) = some b
  | 0, _, _, _, _, h => by simp [eqv] at h
  | n + 1, t, x, y, b, h => by
    unfold eqv at h ⊢
    split at h
    · split at h
      · simp only [ren]; exact h
      · cases h
    · split at h
      · simp only [ren]; exact h
      · cases h
    · split at h
      · simp only [ren]; exact h
      · cases h
    · split at h
      · rename_i c
        cases c <;> simp only [ren, Option.map_none, Option.map_some] <;> exact h
      · simp only [ren, Option.map_none, Option.map_some]; exact h
      · cases h
    · split at h
      · rename_i c _ _
        cases c <;> simp only [ren, Option.map_none, Option.map_some] <;> exact h
      · simp only [ren, Option.map_none, Option.map_some]; exact h
      · cases h
    · split at h
      · simp only [ren]; exact h
      · simp only [ren]; exact h
      · simp only [ren]; exact h
      · cases h
    · split at h
      · rename_i xs ys
        simp only [ren, renA_toList]
        exact foldr_eqv (eqv_ren n) h
      · cases h
    · cases h
theorem eqE_ren {T : TT} {r : Rn G} {op : BinOp} {t : Nat} {x y v : Value} (h : eqE T op t x y = some v) : eqE T op t (ren r x) (ren r y) = some v ∧ ∃ b, v = .bool b := by
  unfold eqE at h ⊢
  split at h
  · split at h
    · rename_i hb
      cases h
      rw [eqv_ren _ _ _ _ _ hb]; exact ⟨rfl, _, rfl⟩
    · cases h
  · split at h
    · rename_i hb
      cases h
      rw [eqv_ren _ _ _ _ _ hb]; exact ⟨rfl, _, rfl⟩
    · cases h
  · cases h
theorem intE_plain {op : BinOp} {k : IntKind} {x y : Int} {v : Value} (h : intE op k x y = some v) : clo v = true := by
  unfold intE at h; split at h <;> cases h <;> rfl
theorem strE_plain {op : BinOp} {x y : ByteArray} {v : Value} (h : strE op x y = some v) : clo v = true := by
  unfold strE at h; split at h <;> cases h <;> rfl
theorem deepV_ren {r : Rn G} {x : Value} (h : deepV x = true) : deepV (ren r x) = true ∧ (∀ k n, ren r x ≠ .int k n) ∧ ∀ s, ren r x ≠ .string s := by
  cases x <;> first | (cases h; done) | (simp only [ren]; exact ⟨rfl, ⟨fun _ _ e => (by cases e), fun _ e => (by cases e)⟩⟩)
theorem binE_ren {T : TT} {r : Rn G} {op : BinOp} {t : Nat} {x y v : Value} (h : binE T op t x y = some v) : binE T op t (ren r x) (ren r y) = some (ren r v) := by
  unfold binE at h
  split at h
  · split at h
    · rename_i hk
      rw [clo_ren (intE_plain h)]
      simp only [ren, binE, hk]; exact h
    · cases h
  · rw [clo_ren (strE_plain h)]
    simp only [ren, binE]; exact h
  · split at h
    · rename_i hd
      simp only [Bool.and_eq_true] at hd
      obtain ⟨h1, h2⟩ := hd
      obtain ⟨he, b, rfl⟩ := eqE_ren (r := r) h
      have d1 := deepV_ren (r := r) h1
      have d2 := deepV_ren (r := r) h2
      unfold binE
      split
      · rename_i e _; exact absurd e (d1.2.1 _ _)
      · rename_i e _; exact absurd e (d1.2.2 _)
      · rw [d1.1, d2.1]; exact he
    · cases h
end Go.Ev
namespace Go.Chi
open Go.ChangeShapes Go.WideShapes
end Go.Chi
namespace Go.Chi
end Go.Chi
namespace Go.Chi
def RunX (P : Program) (C : Cx) (n : Nat) (u : FrameMode) (ds : List Deferred) (σ : Env) (M : Mem) (L : HL) : Prop :=
  ∀ a w k, a.tmps.size = n → a.defers = ds → Sees σ [] a → Hp M L w → J P C.cs C.Φ { C.b.atR a k with mode := u } w
def FnE (P : Program) (f : FuncId) (args : Array Value) (w : World) (R : Ending → World → Prop) : Prop :=
  ∀ cs, ∃ e w' fr, R e w' ∧ e ≠ .outgrown ∧ Steps P (lone (Frame.enter P f args .normal) cs w) (lone fr cs w') ∧ fr.fn = f ∧ fr.leaving P w' e
def TrE (P : Program) (f : FuncId) (args : List Value) (M : Mem) (L : HL) (K : Ending → Mem → HL → Prop) : Prop :=
  (∀ w, (callFunc f ⟨args⟩).run P w = .ok (.enter f ⟨args⟩) w) ∧ ∀ w, Hp M L w → FnE P f ⟨args⟩ w (fun e w' => ∃ M' L', Hp M' L' w' ∧ K e M' L')
def PhiE (P : Program) (f : FuncId) (K : Ending → Mem → HL → Prop) : Frame → World → Prop := fun fr w => ∃ e M L, Hp M L w ∧ K e M L ∧ e ≠ .outgrown ∧ fr.fn = f ∧ fr.leaving P w e
structure FnCxE (P : Program) (f : FuncId) (fn : Func) (K : Ending → Mem → HL → Prop) (C : Cx) : Prop where
  fnn : P.funcs[f]? = some fn
  b : C.b.fn = f
  kind : C.b.kind = .normal
  ro : C.b.roundOf = none
  phi : C.Φ = PhiE P f K
theorem TrE.intro {P : Program} {f : FuncId} {fn : Func} {c : Code} {args : List Value} {M : Mem} {L : HL} {K : Ending → Mem → HL → Prop} (n : Nat) (hf : P.funcs[f]? = some fn) (hb : fn.body = some c) (hn : fn.ntmps = n) (hc : ∀ args w, (callFunc f args).run P w = .ok (.enter f args) w)
    (ha : Nat.ble args.length n = true) (h : ∀ C, FnCxE P f fn K C → C.b.roundOf = none → Run P C n [.code c] [] (argEnv 0 args) M L) : TrE P f args M L K := by
  refine ⟨fun w => hc _ w, fun w hw cs => ?_⟩
  have ha := Nat.le_of_ble_eq_true ha
  let b : Frame := { (default : Frame) with fn := f, kind := .normal, roundOf := none }
  have henter : Frame.enter P f ⟨args⟩ .normal = b.atR { tmps := ⟨args⟩ ++ Array.replicate (n - args.length) undef, defers := [] } [.code c] := by
    simp [Frame.enter, Frame.atR, hf, hb, hn, b]
  have hrun := h ⟨b, cs, PhiE P f K⟩ ⟨hf, rfl, rfl, rfl, rfl⟩ rfl { tmps := ⟨args⟩ ++ Array.replicate (n - args.length) undef, defers := [] } w (by simp; omega) rfl
    ⟨fun t v e => by
      obtain ⟨_, h2⟩ := argEnv_lks e
      simp only [Nat.sub_zero] at h2
      have hlt : t < args.length := (List.getElem?_eq_some_iff.1 h2).1
      rw [Array.getElem?_append, if_pos (by simpa using hlt)]
      simpa using h2, fun t p v e => by simp [lkd] at e⟩ hw
  obtain ⟨fr', w', hs, e, M', L', h1, h2, h3, h4, h5⟩ := hrun
  rw [henter]
  exact ⟨e, w', fr', ⟨M', L', h1, h2⟩, h3, hs, h4, h5⟩
theorem TrE.tr {P : Program} {f : FuncId} {args : List Value} {M : Mem} {L : HL} {K : Ending → Mem → HL → Prop} {K' : Value → Mem → HL → Prop} (h : TrE P f args M L K) (hk : ∀ e M' L', K e M' L' → ∃ v, e = .returned v ∧ K' v M' L') : Tr P f args M L K' :=
  ⟨h.1, fun w hw cs => by
    obtain ⟨e, w', fr, ⟨M', L', hp, hK⟩, _, hs, hfn, hl⟩ := h.2 w hw cs
    obtain ⟨v, rfl, hK'⟩ := hk e M' L' hK
    exact ⟨v, w', fr, ⟨M', L', hp, hK'⟩, hs, hfn, hl⟩⟩
section
variable {P : Program} {C : Cx} {n : Nat} {k : List Item} {ds : List Deferred} {σ : Env} {δ : Den} {M : Mem} {L : HL} {ops : Array Oper}
theorem run_retX (hro : C.b.roundOf = none) (h : RunX P C n .returning ds σ M L) : Run P C n (.code .ret :: k) ds σ M L := fun a w h1 h2 h3 h4 =>
  J.step (stepR_ret hro) (h a w _ h1 h2 h3 h4)
theorem run_endX (hro : C.b.roundOf = none) (h : RunX P C n .returning ds σ M L) : Run P C n [] ds σ M L := fun a w h1 h2 h3 h4 =>
  J.step (stepR_end hro) (h a w _ h1 h2 h3 h4)
theorem runX_ret {f : FuncId} {fn : Func} {K : Ending → Mem → HL → Prop} {M' : Mem} {L' : HL} (hC : FnCxE P f fn K C) {rs : List ResultVar} {vs : List Value} (hrs : fn.results.toList = rs) (hr : ResOk P M L σ rs vs)
    (hm : ∀ w, Hp M L w → Hp M' L' w) (hk : K (.returned (resVal vs)) M' L') : RunX P C n .returning [] σ M L := fun a w k _ h2 h3 h4 => by
  refine J.done ?_
  rw [hC.phi]
  refine ⟨.returned (resVal vs), M', L', hm w h4, hk, by simp, hC.b, rfl, h2, hC.kind, fn, ?_, ?_⟩
  · show P.funcs[C.b.fn]? = some fn; rw [hC.b]; exact hC.fnn
  · exact results_run h3 h4 (by rw [hrs]; exact hr)
theorem runX_pan {f : FuncId} {fn : Func} {K : Ending → Mem → HL → Prop} {M' : Mem} {L' : HL} {ch : List PanicEntry} (hC : FnCxE P f fn K C)
    (hm : ∀ w, Hp M L w → Hp M' L' w) (hk : K (.panicked ch) M' L') : RunX P C n (.panicking ch) [] σ M L := fun a w k _ h2 _ h4 => by
  refine J.done ?_
  rw [hC.phi]
  refine ⟨.panicked ch, M', L', hm w h4, hk, by simp, hC.b, rfl, h2, fn, ?_⟩
  show P.funcs[C.b.fn]? = some fn; rw [hC.b]; exact hC.fnn
theorem runL_callE {d : Nat} {ty : TypeId} {pos : String} {aft : Array Edge} {l : List Oper} {f : FuncId} {args : Array Operand} {tys : Array TypeId} {vs : List Value} {K : Ending → Mem → HL → Prop}
    (ha : evs σ δ [] args.toList = some vs) (ht : TrE P f vs M L K) (hd : Nat.blt d n = true) (hn : lkd δ d = none) (hu : unNamed δ d = true)
    (h : ∀ v M' L', K (.returned v) M' L' → RunL P C n ops l k ds ((d, v) :: σ) δ M' L') (hp : ∀ ch M' L', K (.panicked ch) M' L' → RunX P C n (.panicking ch) ds σ M' L') :
    RunL P C n ops (⟨some d, .call ⟨.value (.func f), args, tys⟩, ty, pos, aft, none⟩ :: l) k ds σ δ M L := fun a w idx h1 h2 h3 h4 h5 => by
  cases idx with
  | nil => simp at h5
  | cons i r =>
    simp only [List.map_cons, List.cons.injEq] at h5
    have hg := stepGR_op (P := P) (b := C.b) (k := k) (cs := C.cs) (w := w) (rest := r) (a := a) h5.1 (wanted_none rfl _)
    have hr : ((⟨some d, .call ⟨.value (.func f), args, tys⟩, ty, pos, aft, none⟩ : Oper).semAt C.b.roundOf a.eval).run P w = .ok (.enter f ⟨vs⟩) w := by
      rw [semAt_of (by intro c e; cases e)]
      have e1 : args.map a.eval = ⟨vs⟩ := by apply Array.ext'; simpa using evs_sound h3 (holds_nil a) ha
      simp only [execOp, resolve, e1, Act.eval, Deferred.ofValue, Sem.run_bind, Sem.run_pure, Result.andThen_ok, invoke]
      simpa using ht.1 w
    obtain ⟨e, w'', fr, ⟨M', L', hp', hK⟩, hne, hs, _, hl⟩ := ht.2 w h4 (C.b.atR a (.inRegion ops (i :: r) :: k) :: C.cs)
    have henter : step P (lone (C.b.atR a (.inRegion ops (i :: r) :: k)) C.cs w) =
        .next (lone (Frame.enter P f ⟨vs⟩ .normal) (C.b.atR a (.inRegion ops (i :: r) :: k) :: C.cs) w) :=
      step_lone_go (by rw [hg]; simp [stepG.apply, hr, Frame.atR])
    have hd' : d < a.tmps.size := by rw [h1]; exact Nat.blt_eq.mp hd
    cases e with
    | outgrown => exact absurd rfl hne
    | returned v =>
      have hstep := step_leave_returned (c := C.b.atR a (.inRegion ops (i :: r) :: k)) (cs := C.cs) hl
      rw [finish_op h5.1] at hstep
      exact J.steps (.head henter (hs.trans (.one hstep))) (h v M' L' hK _ w'' r (by rw [put_size]; exact h1) (by rw [put_defers]; exact h2) (h3.put hd' hn hu v) hp' h5.2)
    | panicked ch =>
      have hstep := step_leave_panicked (c := C.b.atR a (.inRegion ops (i :: r) :: k)) (cs := C.cs) hl
      have hra : (C.b.atR a (.inRegion ops (i :: r) :: k)).raise ch = { C.b.atR a (.inRegion ops (i :: r) :: k) with mode := .panicking ch } := by simp [Frame.raise, Frame.atR]
      rw [hra] at hstep
      exact J.steps (.head henter (hs.trans (.one hstep))) (hp ch M' L' hK a w'' _ h1 h2 h3.nil hp')
end
end Go.Chi
