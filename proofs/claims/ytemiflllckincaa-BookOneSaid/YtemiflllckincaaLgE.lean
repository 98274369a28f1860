import Derived.Test.YtemiflllckincaaLgD
import Derived.Laws.StructEq
namespace Go.Chi

/-! ### types -/
abbrev TT := List (Nat × TypeInfo)
def tlk : TT → Nat → Option TypeInfo
  | [], _ => none
  | (t, i) :: T, k => match Nat.beq t k with | true => some i | false => tlk T k
def und (T : TT) (t : Nat) : Option TypeDesc :=
  match tlk T t with
  | some i => match i.desc with
    | .named _ u => match tlk T u with | some j => some j.desc | none => none
    | d => some d
  | none => none
def aggD : TypeDesc → Bool
  | .struct _ => true
  | .array _ _ => true
  | _ => false
def sizeT (T : TT) (t : Nat) : Option Nat := match tlk T t with | some ⟨_, _, s, _, _, _, _, _, _, _⟩ => some s | none => none
theorem sizeT_ok {T : TT} {t s : Nat} (h : sizeT T t = some s) : ∃ i, tlk T t = some i ∧ i.size = s := by
  unfold sizeT at h
  split at h
  · rename_i a b s' c d e f g i j hi; cases h; exact ⟨_, hi, rfl⟩
  · cases h
def zeroT (T : TT) (t : Nat) : Option Value := match tlk T t with | some ⟨_, _, _, _, _, _, _, z, _, _⟩ => z | none => none
theorem zeroT_ok {T : TT} {t : Nat} {z : Value} (h : zeroT T t = some z) : ∃ i, tlk T t = some i ∧ i.zero = some z := by
  unfold zeroT at h
  split at h
  · rename_i hi; exact ⟨_, hi, h⟩
  · cases h
def bytesT (T : TT) (t : Nat) : Option Nat := match tlk T t with | some ⟨_, _, _, s, _, _, _, _, _, _⟩ => some s | none => none
theorem bytesT_ok {T : TT} {t s : Nat} (h : bytesT T t = some s) : ∃ i, tlk T t = some i ∧ i.bytes = s := by
  unfold bytesT at h
  split at h
  · rename_i hi; cases h; exact ⟨_, hi, rfl⟩
  · cases h
def aggT (T : TT) (t : Nat) : Option Bool := match und T t with | some d => some (aggD d) | none => none

structure TOk (P : Program) (T : TT) : Prop where
  info : ∀ t i, tlk T t = some i → P.info? t = some i
  held : ∀ t i, tlk T t = some i → P.stoodInHeld t = false
  guard : ∀ t i, tlk T t = some i → P.eqGuardType P.depth t = false

theorem tlk_mem : ∀ {T : TT} {t : Nat} {i : TypeInfo}, tlk T t = some i → (t, i) ∈ T
  | [], _, _, h => by simp [tlk] at h
  | (t', i') :: T, t, i, h => by
    simp only [tlk] at h
    split at h
    · rename_i e; cases h; have := Nat.eq_of_beq_eq_true e; subst this; exact List.mem_cons_self
    · exact List.mem_cons_of_mem _ (tlk_mem h)

theorem TOk.of_all {P : Program} {T : TT} (h : ∀ x ∈ T, P.info? x.1 = some x.2 ∧ P.stoodInHeld x.1 = false ∧ P.eqGuardType P.depth x.1 = false) : TOk P T :=
  ⟨fun t i e => (h (t, i) (tlk_mem e)).1, fun t i e => (h (t, i) (tlk_mem e)).2.1, fun t i e => (h (t, i) (tlk_mem e)).2.2⟩

section
variable {P : Program} {T : TT} (hT : TOk P T)
include hT
theorem und_ok {t : Nat} {d : TypeDesc} (h : und T t = some d) : P.underlying t = some d := by
  unfold und at h
  split at h
  · rename_i i hi
    have h1 := hT.info _ _ hi
    unfold Program.underlying
    rw [h1]
    split at h
    · rename_i nm u hd
      split at h
      · rename_i j hj
        have h2 := hT.info _ _ hj
        obtain ⟨desc, _, _, _, _, _, _, _, _, _⟩ := i
        simp only at hd
        subst hd
        simp only [h2, Option.map_some]; exact h
      · cases h
    · rename_i hd
      obtain ⟨desc, _, _, _, _, _, _, _, _, _⟩ := i
      simp only at hd h
      cases desc <;> first | exact h | exact absurd rfl (hd _ _)
  · cases h
theorem run_und {t : Nat} {d : TypeDesc} (h : und T t = some d) (w : World) : (underlying t).run P w = .ok d w := run_underlying (und_ok hT h) w
theorem run_size {t : Nat} {i : TypeInfo} (h : tlk T t = some i) (w : World) : (sizeOf t).run P w = .ok i.size w := by
  simp [sizeOf, typeInfo, hT.info _ _ h]
theorem run_sizeT {t s : Nat} (h : sizeT T t = some s) (w : World) : (sizeOf t).run P w = .ok s w := by
  obtain ⟨i, hi, rfl⟩ := sizeT_ok h; exact run_size hT hi w
theorem run_zeroT {t : Nat} {z : Value} (h : zeroT T t = some z) (w : World) : (zeroValue t).run P w = .ok z w := by
  obtain ⟨i, hi, hz⟩ := zeroT_ok h
  simp [zeroValue, typeInfo, hT.info _ _ hi, hz]
theorem run_info {t : Nat} {i : TypeInfo} (h : tlk T t = some i) (w : World) : (typeInfo t).run P w = .ok i w := by
  simp [typeInfo, hT.info _ _ h]
theorem run_agg {t : Nat} {b : Bool} (h : aggT T t = some b) (w : World) : (isAgg t).run P w = .ok b w := by
  unfold aggT at h
  split at h
  · rename_i d hd
    cases h
    simp only [isAgg, Sem.run_bind, run_und hT hd, Result.andThen_ok]
    cases d <;> rfl
  · cases h
end

/-! ### parts of values, by lists -/
/-- n cells from off on -/
def seg (cs : List Value) (off n : Nat) : List Value := (cs.drop off).take n
/-- the first n of a list, laid out -/
def tkE : Nat → List Value → Option (List Value)
  | 0, _ => some []
  | n + 1, x :: l => match tkE n l with | some r => some (x :: r) | none => none
  | _ + 1, [] => none
theorem tkE_ok : ∀ {n : Nat} {l r : List Value}, tkE n l = some r → r = l.take n ∧ n ≤ l.length
  | 0, l, r, h => by simp [tkE] at h; subst h; simp
  | n + 1, x :: l, r, h => by
    simp only [tkE] at h
    split at h
    · rename_i r' hr; cases h; obtain ⟨h1, h2⟩ := tkE_ok hr; subst h1; simp [h2]
    · cases h
  | n + 1, [], r, h => by simp [tkE] at h
def segE (cs : List Value) (off n : Nat) : Option (List Value) :=
  match Nat.beq off 0 with
  | true => match Nat.beq n cs.length with | true => some cs | false => tkE n cs
  | false => tkE n (cs.drop off)
theorem segE_ok {cs vs : List Value} {off n : Nat} (h : segE cs off n = some vs) : vs = seg cs off n ∧ (off + n ≤ cs.length ∨ n = 0) := by
  unfold segE at h
  split at h
  · rename_i h0
    have h0 := Nat.eq_of_beq_eq_true h0
    subst h0
    split at h
    · rename_i hn
      have hn := Nat.eq_of_beq_eq_true hn
      cases h; subst hn; simp [seg]
    · obtain ⟨h1, h2⟩ := tkE_ok h; subst h1; exact ⟨by simp [seg], by omega⟩
  · obtain ⟨h1, h2⟩ := tkE_ok h; subst h1; refine ⟨rfl, ?_⟩; simp at h2; omega
/-- vs is laid over cs from off on, laid out -/
def putE : List Value → List Value → Option (List Value)
  | [], cs => some cs
  | v :: vs, _ :: cs => match putE vs cs with | some r => some (v :: r) | none => none
  | _ :: _, [] => none
def setE : List Value → Nat → List Value → Option (List Value)
  | cs, 0, vs => match Nat.beq vs.length cs.length with | true => some vs | false => putE vs cs
  | c :: cs, k + 1, vs => match setE cs k vs with | some r => some (c :: r) | none => none
  | [], _ + 1, _ => none
/-- a struct's cells, where parts are laid into -/
def setSeg (zs : List Value) (off : Nat) (vs : List Value) : List Value := zs.take off ++ vs ++ zs.drop (off + vs.length)
theorem putE_ok : ∀ {vs cs r : List Value}, putE vs cs = some r → r = vs ++ cs.drop vs.length ∧ vs.length ≤ cs.length
  | [], cs, r, h => by simp [putE] at h; subst h; simp
  | v :: vs, c :: cs, r, h => by
    simp only [putE] at h
    split at h
    · rename_i r' hr; cases h; obtain ⟨h1, h2⟩ := putE_ok hr; subst h1; simp [h2]
    · cases h
  | _ :: _, [], r, h => by simp [putE] at h
theorem setE_ok : ∀ {cs : List Value} {off : Nat} {vs r : List Value}, setE cs off vs = some r → r = setSeg cs off vs ∧ off + vs.length ≤ cs.length
  | cs, 0, vs, r, h => by
    unfold setE at h
    split at h
    · rename_i hn
      have hn := Nat.eq_of_beq_eq_true hn
      cases h; simp [setSeg, hn]
    · obtain ⟨h1, h2⟩ := putE_ok h; subst h1; simp [setSeg, h2]
  | c :: cs, k + 1, vs, r, h => by
    unfold setE at h
    split at h
    · rename_i r' hr; cases h; obtain ⟨h1, h2⟩ := setE_ok hr; subst h1
      refine ⟨?_, by simp; omega⟩
      have : k + 1 + vs.length = (k + vs.length) + 1 := by omega
      simp [setSeg, this]
    · cases h
  | [], _ + 1, _, r, h => by simp [setE] at h
def partL (T : TT) (t : Nat) (cs : List Value) (off : Nat) : Option Value :=
  match aggT T t with
  | some true => match sizeT T t with
    | some s => match segE cs off s with | some vs => some (.agg ⟨vs⟩) | none => none
    | none => none
  | some false => cs[off]?
  | none => none

theorem extract_seg (cs : Array Value) (off n : Nat) : cs.extract off (off + n) = ⟨seg cs.toList off n⟩ := by
  apply Array.ext'
  simp [seg, List.take_drop]

theorem run_part {P : Program} {T : TT} (hT : TOk P T) {t : Nat} {cs : Array Value} {off : Nat} {v : Value} (h : partL T t cs.toList off = some v) (w : World) : (part t cs off).run P w = .ok v w := by
  unfold partL at h
  split at h
  · rename_i ha
    split at h
    · rename_i i hi
      split at h
      · rename_i vs hvs
        cases h
        rw [(segE_ok hvs).1]
        simp only [part, Sem.run_bind, run_agg hT ha, Result.andThen_ok, if_true, run_sizeT hT hi, Sem.run_pure, extract_seg]
      · cases h
    · cases h
  · rename_i ha
    simp only [part, Sem.run_bind, run_agg hT ha, Result.andThen_ok, Bool.false_eq_true, if_false]
    rw [Array.getElem?_toList] at h
    rw [h]; rfl
  · cases h

def kEq : IntKind → IntKind → Bool
  | .i8, .i8 | .i16, .i16 | .i32, .i32 | .i64, .i64 | .u8, .u8 | .u16, .u16 | .u32, .u32 | .u64, .u64 => true
  | _, _ => false
theorem kEq_eq {a b : IntKind} (h : kEq a b = true) : a = b := by cases a <;> cases b <;> first | rfl | cases h

def isBlank : String → Bool := fun s => s == "_"

/-- '==' -/
def eqv (T : TT) : Nat → Nat → Value → Value → Option Bool
  | 0, _, _, _ => none
  | n + 1, t, x, y =>
    match und T t with
    | some .bool => match x, y with | .bool a, .bool b => some (a == b) | _, _ => none
    | some (.int _) => match x, y with
      | .int k a, .int k' b => match kEq k k' with | true => some (a == b) | false => none
      | _, _ => none
    | some .string => match x, y with | .string a, .string b => some (a.toList == b.toList) | _, _ => none
    | some (.pointer _) => match x, y with
      | .pointer none, .pointer b => some b.isNone
      | .pointer (some _), .pointer none => some false
      | _, _ => none
    | some (.slice _) => match x, y with
      | .slice none _ _, .slice b _ _ => some b.isNone
      | .slice (some _) _ _, .slice none _ _ => some false
      | _, _ => none
    | some (.func _ _ _) => match x, y with
      | .nilFunc, .nilFunc => some true
      | .nilFunc, .func _ _ _ => some false
      | .func _ _ _, .nilFunc => some false
      | _, _ => none
    | some (.struct fs) => match x, y with
      | .agg xs, .agg ys =>
        fs.toList.foldr (fun f r => match isBlank f.name with
          | true => r
          | false => match partL T f.type xs.toList f.offset, partL T f.type ys.toList f.offset with
            | some a, some b => match eqv T n f.type a b with
              | some e => match r with | some r => some (e && r) | none => none
              | none => none
            | _, _ => none) (some true)
      | _, _ => none
    | _ => none

theorem eqv_ok {P : Program} {T : TT} (hT : TOk P T) : ∀ {n : Nat} {t : Nat} {x y : Value} {b : Bool}, eqv T n t x y = some b → ∀ d, n ≤ d → ∀ w, (Op.equalIn d t x y).run P w = .ok b w
  | 0, _, _, _, _, h => by simp [eqv] at h
  | n + 1, t, x, y, b, h => by
    intro d hd w
    obtain ⟨d, rfl⟩ : ∃ d', d = d' + 1 := ⟨d - 1, by omega⟩
    simp only [eqv] at h
    split at h
    · rename_i hu
      split at h
      · cases h; exact run_equalIn_bool' w d t _ _ (und_ok hT hu)
      · cases h
    · rename_i hu
      split at h
      · split at h
        · rename_i hk
          cases h
          have := kEq_eq hk; subst this
          exact run_equalIn_int w d t _ _ _ _ (und_ok hT hu)
        · cases h
      · cases h
    · rename_i hu
      split at h
      · cases h; exact run_equalIn_string w d t _ _ (und_ok hT hu)
      · cases h
    · rename_i hu
      split at h
      · cases h; simp [Op.equalIn, run_und hT hu]
      · cases h; simp [Op.equalIn, run_und hT hu]
      · cases h
    · rename_i hu
      split at h
      · cases h; simp [Op.equalIn, run_und hT hu]
      · cases h; simp [Op.equalIn, run_und hT hu]
      · cases h
    · rename_i hu
      split at h
      · cases h; simp [Op.equalIn, run_und hT hu]
      · cases h; simp [Op.equalIn, run_und hT hu]
      · cases h; simp [Op.equalIn, run_und hT hu]
      · cases h
    · rename_i fs hu
      split at h
      · rename_i xs ys
        have hheld : P.stoodInHeld t = false := by
          cases hi : tlk T t with
          | none => simp [und, hi] at hu
          | some i => exact hT.held _ _ hi
        have hu' := und_ok hT hu
        have hf : P.fieldsOf t = fs := by simp [Program.fieldsOf, hu']
        rw [run_equalIn_struct w d t xs ys (by rw [hf]; exact hu') hheld, hf]
        clear hu hu' hf hheld
        generalize fs.toList = l at h
        induction l generalizing b w with
        | nil => simp at h; subst h; simp [Op.eqFields]
        | cons f l ih =>
          simp only [List.foldr_cons] at h
          split at h
          · rename_i hb
            have : f.name = "_" := by simpa [isBlank] using hb
            simp only [Op.eqFields, this, ne_eq, not_true_eq_false, if_false]
            exact ih _ w h
          · rename_i hb
            have hne : f.name ≠ "_" := by simpa [isBlank] using hb
            split at h
            · rename_i a b' ha hb'
              split at h
              · rename_i e he
                split at h
                · rename_i r hr
                  cases h
                  simp only [Op.eqFields, hne, ne_eq, not_false_eq_true, if_true, Sem.run_bind, run_part hT ha, run_part hT hb', Result.andThen_ok, eqv_ok hT he d (by omega)]
                  cases e
                  · simp
                  · simpa using ih _ w hr
                · cases h
              · cases h
            · cases h
      · cases h
    · cases h

end Go.Chi
