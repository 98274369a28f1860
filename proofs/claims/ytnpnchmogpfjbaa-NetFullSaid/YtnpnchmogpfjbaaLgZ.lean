import Derived.Test.YtnpnchmogpfjbaaLgY
namespace Go.Chi
section
variable {κ : Type} [DecidableEq κ]
/-- a key that is there, or is made there -/
def kvTouch (es : KV κ) (a : κ) (z : Value) (clock : Nat) : KV κ := match es with
  | [] => [(a, z, clock)]
  | x :: es => if a = x.1 then x :: es else x :: kvTouch es a z clock
def kvBorn (es : KV κ) (a : κ) (clock : Nat) : Nat := match es with
  | [] => clock
  | x :: es => if a = x.1 then x.2.2 else kvBorn es a clock
structure KvOk (es : KV κ) (clock : Nat) : Prop where
  nodup : (es.map (·.2.2)).Nodup
  lt : ∀ x ∈ es, x.2.2 < clock
omit [DecidableEq κ] in
theorem KvOk.nil (clock : Nat) : KvOk ([] : KV κ) clock := ⟨by simp, fun x h => by cases h⟩
theorem kvGet_set (a : κ) (v : Value) (clock : Nat) (b : κ) : ∀ es : KV κ, kvGet (kvSet es a v clock) b = if b = a then some v else kvGet es b
  | [] => by simp only [kvSet, kvGet]
  | x :: es => by
    simp only [kvSet]
    split
    · rename_i e
      subst e
      simp only [kvGet]
      split
      · rfl
      · rfl
    · rename_i e
      simp only [kvGet, kvGet_set a v clock b es]
      by_cases e2 : b = x.1
      · rw [if_pos e2, if_pos e2, if_neg (fun h => e (by rw [← h]; exact e2))]
      · rw [if_neg e2, if_neg e2]
theorem kvGet_touch (a : κ) (z : Value) (clock : Nat) : ∀ es : KV κ, (kvGet (kvTouch es a z clock) a).getD z = (kvGet es a).getD z
  | [] => by simp [kvTouch, kvGet]
  | x :: es => by
    simp only [kvTouch]
    split
    · rfl
    · rename_i e
      simp only [kvGet, if_neg e]
      exact kvGet_touch a z clock es
theorem kvBorn_mem (a : κ) (clock : Nat) : ∀ es : KV κ, kvBorn es a clock = clock ∨ kvBorn es a clock ∈ es.map (·.2.2)
  | [] => .inl rfl
  | x :: es => by
    simp only [kvBorn]
    split
    · exact .inr (by simp)
    · rcases kvBorn_mem a clock es with h | h
      · exact .inl h
      · exact .inr (by rw [List.map_cons]; exact List.mem_cons_of_mem _ h)
theorem touch_set {enc : κ → Value} (a : κ) (z v : Value) (clock : Nat) : ∀ es : KV κ, KvOk es clock →
    ∃ i, (ents enc (kvTouch es a z clock)).findIdx? (fun e => (e.born : Int) == ((kvBorn es a clock : Nat) : Int)) = some i ∧ (ents enc (kvTouch es a z clock)).modify i (fun e => { e with val := v }) = ents enc (kvSet es a v clock)
  | [], _ => ⟨0, by simp [kvTouch, kvBorn, ents, List.findIdx?_cons], by simp [kvTouch, kvSet, ents]⟩
  | x :: es, h => by
    by_cases e : a = x.1
    · refine ⟨0, ?_, ?_⟩
      · simp only [kvTouch, kvBorn, if_pos e, ents, List.map_cons]
        simp [List.findIdx?_cons]
      · simp only [kvTouch, kvSet, if_pos e, ents, List.map_cons]
        simp
    · obtain ⟨i, h1, h2⟩ := touch_set (enc := enc) a z v clock es ⟨(List.nodup_cons.1 (by rw [← List.map_cons]; exact h.nodup)).2, fun y hy => h.lt y (List.mem_cons_of_mem _ hy)⟩
      have hne : x.2.2 ≠ kvBorn es a clock := by
        rcases kvBorn_mem a clock es with hb | hb
        · have := h.lt x List.mem_cons_self; omega
        · intro he
          rw [← he] at hb
          have hnd := h.nodup
          rw [List.map_cons] at hnd
          exact (List.nodup_cons.1 hnd).1 hb
      refine ⟨i + 1, ?_, ?_⟩
      · simp only [kvTouch, kvBorn, if_neg e, ents, List.map_cons]
        rw [List.findIdx?_cons]
        have hf : (((x.2.2 : Nat) : Int) == ((kvBorn es a clock : Nat) : Int)) = false := by
          rw [beq_eq_false_iff_ne]; omega
        simp only [hf]
        simp only [ents] at h1
        rw [h1]; rfl
      · simp only [kvTouch, kvSet, if_neg e, ents, List.map_cons]
        simp only [ents] at h2
        simp [h2]
theorem kvSet_births (a : κ) (v : Value) (clock : Nat) : ∀ es : KV κ, (kvSet es a v clock).map (·.2.2) = if (kvGet es a).isSome then es.map (·.2.2) else es.map (·.2.2) ++ [clock]
  | [] => by simp [kvSet, kvGet]
  | x :: es => by
    simp only [kvSet, kvGet]
    split
    · simp
    · rw [List.map_cons, kvSet_births a v clock es]
      split <;> simp
theorem KvOk.set {es : KV κ} {clock : Nat} (h : KvOk es clock) (a : κ) (v : Value) : KvOk (kvSet es a v clock) (if (kvGet es a).isSome then clock else clock + 1) := by
  have hb := kvSet_births a v clock es
  constructor
  · rw [hb]
    split
    · exact h.nodup
    · rw [List.nodup_append]
      refine ⟨h.nodup, by simp, fun x hx y hy e => ?_⟩
      obtain ⟨z, hz, rfl⟩ := List.mem_map.1 hx
      have := h.lt z hz
      simp at hy
      omega
  · intro x hx
    have hm : x.2.2 ∈ (kvSet es a v clock).map (·.2.2) := List.mem_map_of_mem (f := fun x : κ × Value × Nat => x.2.2) hx
    rw [hb] at hm
    split at hm
    · rename_i hs
      rw [if_pos hs]
      obtain ⟨z, hz, e⟩ := List.mem_map.1 hm
      have := h.lt z hz
      omega
    · rename_i hs
      rw [if_neg hs]
      rcases List.mem_append.1 hm with hm | hm
      · obtain ⟨z, hz, e⟩ := List.mem_map.1 hm
        have := h.lt z hz
        omega
      · simp at hm; omega
theorem touch_of (a : κ) (z : Value) (clock : Nat) : ∀ es : KV κ, kvTouch es a z clock = if (kvGet es a).isSome then es else es ++ [(a, z, clock)]
  | [] => by simp [kvTouch, kvGet]
  | x :: es => by
    simp only [kvTouch, kvGet]
    split
    · simp
    · rw [touch_of a z clock es]
      split <;> simp
theorem born_of (a : κ) (clock : Nat) : ∀ (es : KV κ) (i : Nat),
    (∀ j u, fnd a es i = some (j, u) → i ≤ j ∧ ∃ x, es[j - i]? = some x ∧ x.1 = a ∧ x.2.1 = u ∧ x.2.2 = kvBorn es a clock) ∧ (fnd a es i = none → kvBorn es a clock = clock)
  | [], i => ⟨fun j u h => by simp [fnd] at h, fun _ => rfl⟩
  | x :: es, i => by
    obtain ⟨ih1, ih2⟩ := born_of a clock es (i + 1)
    constructor
    · intro j u h
      simp only [fnd] at h
      split at h
      · rename_i e
        cases h
        exact ⟨Nat.le_refl _, x, by simp, e.symm, rfl, by simp [kvBorn, e]⟩
      · rename_i e
        obtain ⟨h1, y, h2, h3⟩ := ih1 j u h
        refine ⟨by omega, y, ?_, by simpa only [kvBorn, if_neg e] using h3⟩
        rw [show j - i = (j - (i + 1)) + 1 from by omega]; simpa using h2
    · intro h
      simp only [fnd] at h
      split at h
      · cases h
      · rename_i e
        simp only [kvBorn, if_neg e, ih2 h]
variable {P : Program} {kt : TypeId} {enc : κ → Value} {T : TT} {ro : Option Nat} {σ : Env} {δ : Den} {cur : Path} {M : Mem} {L : HL} {d : Option Nat} {op : Op} {ty : TypeId} {pos : String} {aft : Array Edge} {g : Option (Nat × Bool)} {v : Value}
theorem st_mapEntry (hT : TOk P T) (hk : KeyLaw P kt enc) {t : TypeId} {x y : Operand} {b : Nat} {et : TypeId} {kv z : Value} {a : κ} {es : KV κ} {clock : Nat} {L' : HL}
    (hu : und T t = some (.map kt et)) (hx : ev σ δ cur x = some (.map (some b))) (hy : ev σ δ cur y = some kv) (he : kv = enc a) (hz : zeroT T et = some z)
    (hL : Upd L b (.map ⟨ents enc es⟩ clock) (.map ⟨ents enc (kvTouch es a z clock)⟩ (if (kvGet es a).isSome then clock else clock + 1)) L') :
    St P ro ⟨d, .mapEntry t x y, ty, pos, aft, g⟩ σ δ cur M L (fun v' M' L'' => v' = .tuple ⟨[(kvGet es a).getD z, .int .i64 ((kvBorn es a clock : Nat) : Int)]⟩ ∧ M = M' ∧ L'' = L') := fun act w hs hcur hp => by
  have hb' := hp.own _ hL.mem
  subst he
  refine opWp_value (v := .tuple ⟨[(kvGet es a).getD z, .int .i64 ((kvBorn es a clock : Nat) : Int)]⟩) (w' := w.putObj b (.map ⟨ents enc (kvTouch es a z clock)⟩ (if (kvGet es a).isSome then clock else clock + 1))) ?_ ⟨M, L', hp.putObj hL, rfl, rfl, rfl⟩
  rw [semAt_of (by intro c e; cases e)]
  have hget : (getObj b).run P w = .ok (.map ⟨ents enc es⟩ clock) w := by simp [getObj, Sem.run, hb']
  have hset : ∀ o, (setObj b o).run P w = .ok () (w.putObj b o) := fun o => by simp [setObj, Sem.run, hb', World.putObj]
  have hzv : (zeroValue et).run P w = .ok z w := run_zeroT hT hz w
  simp only [execOp, Instr.mapEntry, ev_sound hs hcur hx, ev_sound hs hcur hy, Sem.run_bind, run_und hT hu, Result.andThen_ok, hget, hk.chk, findKey_ok hk]
  have hg := fnd_get a es 0
  obtain ⟨h1, h2⟩ := born_of a clock es 0
  cases h : fnd a es 0 with
  | none =>
    rw [h] at hg
    simp only [hzv, hset, Result.andThen_ok, Sem.run_pure, Sem.run_bind]
    rw [touch_of, ← hg, h2 h]
    simp [ents, goInt]
  | some r =>
    obtain ⟨j, u⟩ := r
    obtain ⟨_, y, h3, h4, h5, h6⟩ := h1 j u h
    simp only [Nat.sub_zero] at h3
    rw [h] at hg
    have hkey : (((⟨ents enc es⟩ : Array MapEntry)[j]?).map (·.key)).getD (enc a) = enc a := by simp [ents, h3, h4]
    have hborn : (((⟨ents enc es⟩ : Array MapEntry)[j]?).map (·.born)).getD 0 = kvBorn es a clock := by simp [ents, h3, h6]
    have hmod : (⟨ents enc es⟩ : Array MapEntry).modify j (fun e => { e with key := enc a }) = ⟨ents enc es⟩ := by
      apply Array.ext'
      simp only [Array.toList_modify, ents]
      apply List.ext_getElem?
      intro n
      simp only [List.getElem?_modify, List.getElem?_map]
      cases hn : es[n]? with
      | none => simp
      | some y' =>
        simp only [Option.map_some]
        by_cases e : j = n
        · subst e; rw [h3] at hn; cases hn; simp [h4]
        · simp [e]
    simp only [hkey, hmod, Sem.run_bind, Instr.keyThatStays, hk.bits, if_true, Sem.run_pure, Result.andThen_ok, hset]
    rw [touch_of, ← hg]
    simp [goInt, ents, h3, h6]
theorem st_entryStore {t : TypeId} {x s q : Operand} {b c1 : Nat} {z : Value} {a : κ} {es : KV κ} {clock : Nat} {L' : HL} (hok : KvOk es clock)
    (hx : ev σ δ cur x = some (.map (some b))) (hs' : ev σ δ cur s = some (.int .i64 ((kvBorn es a clock : Nat) : Int))) (hq : ev σ δ cur q = some v)
    (hL : Upd L b (.map ⟨ents enc (kvTouch es a z clock)⟩ c1) (.map ⟨ents enc (kvSet es a v clock)⟩ c1) L') :
    St P ro ⟨d, .entryStore t x s q, ty, pos, aft, g⟩ σ δ cur M L (fun v' M' L'' => v' = undef ∧ M = M' ∧ L'' = L') := fun act w hs hcur hp => by
  have hb' := hp.own _ hL.mem
  refine opWp_skip (w' := w.putObj b (.map ⟨ents enc (kvSet es a v clock)⟩ c1)) ?_ ⟨M, L', hp.putObj hL, rfl, rfl, rfl⟩
  rw [semAt_of (by intro c e; cases e)]
  have hget : (getObj b).run P w = .ok (.map ⟨ents enc (kvTouch es a z clock)⟩ c1) w := by simp [getObj, Sem.run, hb']
  have hset : ∀ o, (setObj b o).run P w = .ok () (w.putObj b o) := fun o => by simp [setObj, Sem.run, hb', World.putObj]
  obtain ⟨i, h1, h2⟩ := touch_set (enc := enc) a z v clock es hok
  have h1' : (⟨ents enc (kvTouch es a z clock)⟩ : Array MapEntry).findIdx? (fun e => (e.born : Int) == ((kvBorn es a clock : Nat) : Int)) = some i := by
    rw [← h1]; exact List.findIdx?_toArray _ _
  have h2' : (⟨ents enc (kvTouch es a z clock)⟩ : Array MapEntry).modify i (fun e => { e with val := v }) = ⟨ents enc (kvSet es a v clock)⟩ := by
    apply Array.ext'
    simp only [Array.toList_modify]
    exact h2
  simp only [execOp, Instr.entryStore, ev_sound hs hcur hx, ev_sound hs hcur hs', ev_sound hs hcur hq, Sem.run_bind, Result.andThen_ok, hget, asInt, asIntOf, Sem.run_pure, h1', h2', hset]
end
end Go.Chi
