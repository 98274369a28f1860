import Derived.Test.YtemiflllckincaaLgI
namespace Go.Chi

/-! ### maps -/
/-- keys of a type are compared as what they stand for -/
structure KeyLaw (P : Program) (kt : TypeId) {κ : Type} [DecidableEq κ] (enc : κ → Value) : Prop where
  eq : ∀ a b w, (Op.equal kt (enc a) (enc b)).run P w = .ok (decide (a = b)) w
  chk : ∀ e a w, (Instr.checkKey e 10000 kt (enc a)).run P w = .ok () w
  und : ∃ de, P.underlying kt = some de ∧ ∀ a b, Instr.sameNow de (enc a) (enc b) = some (decide (a = b)) ∨ Instr.sameNow de (enc a) (enc b) = none
  bits : ∀ a, Instr.sameBits 10000 (enc a) (enc a) = true

section
variable {κ : Type} [DecidableEq κ]
abbrev KV (κ : Type) := List (κ × Value × Nat)
def ents (enc : κ → Value) (es : KV κ) : List MapEntry := es.map fun x => { key := enc x.1, val := x.2.1, born := x.2.2 }
def fnd (a : κ) : KV κ → Nat → Option (Nat × Value)
  | [], _ => none
  | x :: es, i => if a = x.1 then some (i, x.2.1) else fnd a es (i + 1)
/-- the value of a key -/
def kvGet (es : KV κ) (a : κ) : Option Value := match es with
  | [] => none
  | x :: es => if a = x.1 then some x.2.1 else kvGet es a
/-- a key is given a value -/
def kvSet (es : KV κ) (a : κ) (v : Value) (clock : Nat) : KV κ := match es with
  | [] => [(a, v, clock)]
  | x :: es => if a = x.1 then (x.1, v, x.2.2) :: es else x :: kvSet es a v clock

theorem fnd_get (a : κ) : ∀ (es : KV κ) (i : Nat), (fnd a es i).map (·.2) = kvGet es a
  | [], i => rfl
  | x :: es, i => by
    simp only [fnd, kvGet]
    split
    · rfl
    · exact fnd_get a es (i + 1)

variable {P : Program} {kt : TypeId} {enc : κ → Value}

theorem findNow_ok (de : TypeDesc) (a : κ) (h : ∀ b, Instr.sameNow de (enc a) (enc b) = some (decide (a = b)) ∨ Instr.sameNow de (enc a) (enc b) = none) :
    ∀ (es : KV κ) (i : Nat), Instr.findNow de (enc a) (ents enc es) i = some (fnd a es i) ∨ Instr.findNow de (enc a) (ents enc es) i = none
  | [], i => .inl rfl
  | x :: es, i => by
    have ih := findNow_ok de a h es (i + 1)
    simp only [ents, List.map_cons, Instr.findNow, fnd] at ih ⊢
    rcases h x.1 with hx | hx
    · rw [hx]
      by_cases e : a = x.1
      · simp [e]
      · simp only [e, decide_false, if_false]; exact ih
    · rw [hx]; exact .inr rfl

theorem findAsking_ok (hk : KeyLaw P kt enc) (a : κ) (w : World) : ∀ (es : KV κ) (i : Nat), (Instr.findAsking kt (enc a) (ents enc es) i).run P w = .ok (fnd a es i) w
  | [], i => rfl
  | x :: es, i => by
    have ih := findAsking_ok hk a w es (i + 1)
    simp only [ents, List.map_cons, Instr.findAsking, fnd, Sem.run_bind, hk.eq, Result.andThen_ok, Sem.run_ite] at ih ⊢
    by_cases e : a = x.1
    · simp [e]
    · simp only [e, decide_false, Bool.false_eq_true, if_false]; exact ih

theorem findKey_ok (hk : KeyLaw P kt enc) (a : κ) (es : KV κ) (w : World) : (Instr.findKey kt (enc a) (ents enc es)).run P w = .ok (fnd a es 0) w := by
  obtain ⟨de, hd, hs⟩ := hk.und
  simp only [Instr.findKey, Sem.run_bind, run_underlying hd, Result.andThen_ok]
  rcases findNow_ok de a (hs a) es 0 with h | h
  · rw [h]; rfl
  · rw [h]; exact findAsking_ok hk a w es 0

def lookRes (ok : Bool) (r : Option Value) (z : Value) : Value :=
  match ok, r with
  | true, some v => .tuple #[v, .bool true]
  | true, none => .tuple #[z, .bool false]
  | false, some v => v
  | false, none => z

variable {T : TT} {ro : Option Nat} {σ : Env} {δ : Den} {cur : Path} {M : Mem} {L : HL} {d : Option Nat} {op : Op} {ty : TypeId} {pos : String} {aft : Array Edge} {g : Option (Nat × Bool)} {v : Value}

theorem qt_lookup (hT : TOk P T) (hk : KeyLaw P kt enc) {t : TypeId} {x y : Operand} {b : Nat} {ok : Bool} {et : TypeId} {z kv : Value} {a : κ} {es : KV κ} {clock : Nat}
    (hu : und T t = some (.map kt et)) (hx : ev σ δ cur x = some (.map (some b))) (hy : ev σ δ cur y = some kv) (he : kv = enc a) (hb : Blk M L b (.map ⟨ents enc es⟩ clock)) (hz : zeroT T et = some z) :
    Qt P ro ⟨d, .lookup t x y ok, ty, pos, aft, g⟩ σ δ cur M L (lookRes ok (kvGet es a) z) :=
  qt_of_run (semAt_of (by intro c e; cases e)) fun act w hs hcur hp => by
    have hb' := hp.at_ hb
    subst he
    have hget : (getObj b).run P w = .ok (.map ⟨ents enc es⟩ clock) w := by simp [getObj, Sem.run, hb']
    simp only [execOp, Instr.lookup, ev_sound hs hcur hx, ev_sound hs hcur hy, Sem.run_bind, run_und hT hu, Result.andThen_ok, hget, Sem.run_pure, hk.chk, findKey_ok hk]
    rw [← fnd_get a es 0]
    cases h : fnd a es 0 with
    | none =>
      have hzv : (zeroValue et).run P w = .ok z w := run_zeroT hT hz w
      simp only [Sem.run_bind, hzv, Result.andThen_ok, Sem.run_pure, Option.map_none]
      cases ok <;> rfl
    | some r =>
      obtain ⟨j, u⟩ := r
      simp only [Sem.run_pure, Result.andThen_ok, Option.map_some]
      cases ok <;> rfl

theorem fnd_set (a : κ) (v : Value) (clock : Nat) : ∀ (es : KV κ) (i : Nat),
    (∀ j u, fnd a es i = some (j, u) → i ≤ j ∧ ∃ old born, es[j - i]? = some (a, old, born) ∧ kvSet es a v clock = es.modify (j - i) (fun x => (x.1, v, x.2.2))) ∧
    (fnd a es i = none → kvSet es a v clock = es ++ [(a, v, clock)])
  | [], i => ⟨fun j u h => by simp [fnd] at h, fun _ => rfl⟩
  | x :: es, i => by
    obtain ⟨ih1, ih2⟩ := fnd_set a v clock es (i + 1)
    constructor
    · intro j u h
      simp only [fnd] at h
      split at h
      · rename_i e
        cases h
        subst e
        exact ⟨Nat.le_refl _, x.2.1, x.2.2, by simp, by simp [kvSet]⟩
      · rename_i e
        obtain ⟨h1, old, born, h2, h3⟩ := ih1 j u h
        refine ⟨by omega, old, born, ?_, ?_⟩
        · rw [show j - i = (j - (i + 1)) + 1 from by omega]; simpa using h2
        · simp only [kvSet, e, if_false]
          rw [show j - i = (j - (i + 1)) + 1 from by omega, h3]; simp
    · intro h
      simp only [fnd] at h
      split at h
      · cases h
      · rename_i e
        simp only [kvSet, e, if_false, ih2 h, List.cons_append]

theorem st_mapUpdate (hT : TOk P T) (hk : KeyLaw P kt enc) {t : TypeId} {x y q : Operand} {b : Nat} {et : TypeId} {kv : Value} {a : κ} {es : KV κ} {clock : Nat} {L' : HL} {mo : Op}
    (hmo : mo = .mapUpdate t x y q ∨ mo = .insert t x y q)
    (hu : und T t = some (.map kt et)) (hx : ev σ δ cur x = some (.map (some b))) (hy : ev σ δ cur y = some kv) (he : kv = enc a) (hq : ev σ δ cur q = some v)
    (hL : Upd L b (.map ⟨ents enc es⟩ clock) (.map ⟨ents enc (kvSet es a v clock)⟩ (if (kvGet es a).isSome then clock else clock + 1)) L') :
    St P ro ⟨d, mo, ty, pos, aft, g⟩ σ δ cur M L (fun v' M' L'' => v' = undef ∧ M = M' ∧ L'' = L') := fun act w hs hcur hp => by
  have hb' := hp.own _ hL.mem
  subst he
  refine opWp_skip (w' := w.putObj b (.map ⟨ents enc (kvSet es a v clock)⟩ (if (kvGet es a).isSome then clock else clock + 1))) ?_ ⟨M, L', hp.putObj hL, rfl, rfl, rfl⟩
  have hdef : ∀ c, mo ≠ .defer c := fun c e => by rcases hmo with h | h <;> (rw [h] at e; cases e)
  rw [semAt_of hdef]
  have hexe : execOp act.eval ⟨d, mo, ty, pos, aft, g⟩ = (do Instr.mapUpdate t (act.eval x) (act.eval y) (act.eval q); pure .skip) := by rcases hmo with rfl | rfl <;> rfl
  rw [hexe]
  have hget : (getObj b).run P w = .ok (.map ⟨ents enc es⟩ clock) w := by simp [getObj, Sem.run, hb']
  have hset : ∀ o, (setObj b o).run P w = .ok () (w.putObj b o) := fun o => by simp [setObj, Sem.run, hb', World.putObj]
  simp only [Instr.mapUpdate, ev_sound hs hcur hx, ev_sound hs hcur hy, ev_sound hs hcur hq, Sem.run_bind, run_und hT hu, Result.andThen_ok, hget, hk.chk, findKey_ok hk]
  have hg := fnd_get a es 0
  obtain ⟨h1, h2⟩ := fnd_set a v clock es 0
  cases h : fnd a es 0 with
  | none =>
    rw [h] at hg
    simp only [hset, Result.andThen_ok, Sem.run_pure]
    rw [← hg, h2 h]
    congr 3
    simp [ents]
  | some r =>
    obtain ⟨j, u⟩ := r
    obtain ⟨_, old, born, h3, h4⟩ := h1 j u h
    simp only [Nat.sub_zero] at h3 h4
    rw [h] at hg
    have hkey : (((⟨ents enc es⟩ : Array MapEntry)[j]?).map (·.key)).getD (enc a) = enc a := by simp [ents, h3]
    simp only [hkey, Sem.run_bind, Instr.keyThatStays, hk.bits, if_true, Sem.run_pure, Result.andThen_ok, hset]
    rw [← hg, h4]
    congr 3
    apply Array.ext'
    simp only [Array.toList_modify, ents]
    apply List.ext_getElem?
    intro n
    simp only [List.getElem?_modify, List.getElem?_map]
    cases hn : es[n]? with
    | none => simp
    | some y =>
      simp only [Option.map_some]
      by_cases e : j = n
      · subst e; rw [h3] at hn; cases hn; simp
      · simp [e]

end

theorem st_makeMap {P : Program} {ro : Option Nat} {σ : Env} {δ : Den} {cur : Path} {M : Mem} {L : HL} {d : Option Nat} {ty : TypeId} {pos : String} {aft : Array Edge} {g : Option (Nat × Bool)} {t : TypeId} : St P ro ⟨d, .makeMap t none, ty, pos, aft, g⟩ σ δ cur M L (fun v' M' L' => ∃ b, v' = .map (some b) ∧ M = M' ∧ L' = (b, .map ⟨[]⟩ 0) :: L) := fun a w hs hcur hp => by
  refine opWp_value (v := .map (some w.heap.size)) (w' := { w with heap := w.heap.push (.map #[] 0) }) ?_ ⟨M, _, hp.push _, _, rfl, rfl, rfl⟩
  rw [semAt_of (by intro c e; cases e)]
  simp [execOp, Instr.makeMap]

/-! ### keys that are integers, structs -/
theorem chk_plain {P : Program} {kt : TypeId} {de : TypeDesc} {v : Value} (hu : P.underlying kt = some de) (hd : ∀ ms, de ≠ .interface ms) (ha : ∀ n e, de ≠ .array n e) (hs : ∀ fs, de ≠ .struct fs) (e : Bool) (n : Nat) (w : World) : (Instr.checkKey e (n + 1) kt v).run P w = .ok () w := by
  simp only [Instr.checkKey, Sem.run_bind, run_underlying hu, Result.andThen_ok]
  cases de <;> first | rfl | exact absurd rfl (hd _) | exact absurd rfl (ha _ _) | exact absurd rfl (hs _)

theorem bytes_eq {a b : ByteArray} (h : a.toList = b.toList) : a = b := by
  rw [ByteArray.toList_eq, ByteArray.toList_eq] at h
  obtain ⟨x⟩ := a
  obtain ⟨y⟩ := b
  congr 1
  exact Array.ext' h
theorem bytes_beq (a b : ByteArray) : (a.toList == b.toList) = decide (a = b) := by
  by_cases e : a = b
  · subst e; simp
  · rw [decide_eq_false e]
    cases h : a.toList == b.toList with
    | false => rfl
    | true => exact absurd (bytes_eq (eq_of_beq h)) e

theorem keyInt {P : Program} {T : TT} (hT : TOk P T) {kt : TypeId} {k k' : IntKind} (hu : und T kt = some (.int k')) : KeyLaw P kt (fun n : Int => .int k n) where
  eq := fun a b w => by rw [Op.equal, Op.maxDepth, run_equalIn_int w 9999 kt k k' a b (und_ok hT hu)]; congr 1
  chk := fun e a w => chk_plain (und_ok hT hu) (by intro x h; cases h) (by intro x y h; cases h) (by intro x h; cases h) e 9999 w
  und := ⟨_, und_ok hT hu, fun a b => .inl (by simp only [Instr.sameNow, if_true]; congr 1)⟩
  bits := fun a => by simp [Instr.sameBits]
theorem keyStr {P : Program} {T : TT} (hT : TOk P T) {kt : TypeId} (hu : und T kt = some .string) : KeyLaw P kt (fun n : ByteArray => .string n) where
  eq := fun a b w => by
    rw [Op.equal, Op.maxDepth, run_equalIn_string w 9999 kt a b (und_ok hT hu)]
    rw [bytes_beq]
  chk := fun e a w => chk_plain (und_ok hT hu) (by intro x h; cases h) (by intro x y h; cases h) (by intro x h; cases h) e 9999 w
  und := ⟨_, und_ok hT hu, fun a b => .inl (by simp only [Instr.sameNow]; rw [beq_toListBytes, bytes_beq])⟩
  bits := fun a => by simp only [Instr.sameBits]; rw [beq_toListBytes, bytes_beq]; simp

end Go.Chi
