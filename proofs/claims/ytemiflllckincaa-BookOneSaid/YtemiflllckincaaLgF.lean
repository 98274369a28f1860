import Derived.Test.YtemiflllckincaaLgE
namespace Go.Chi

/-! ### operations that only compute -/
def iand (k : IntKind) (x y : Int) : Int := k.wrap ((BitVec.ofInt k.bits x &&& BitVec.ofInt k.bits y).toNat : Int)
def ior (k : IntKind) (x y : Int) : Int := k.wrap ((BitVec.ofInt k.bits x ||| BitVec.ofInt k.bits y).toNat : Int)
def ixor (k : IntKind) (x y : Int) : Int := k.wrap ((BitVec.ofInt k.bits x ^^^ BitVec.ofInt k.bits y).toNat : Int)
def iandn (k : IntKind) (x y : Int) : Int := k.wrap ((BitVec.ofInt k.bits x &&& ~~~ BitVec.ofInt k.bits y).toNat : Int)

def intE (op : BinOp) (k : IntKind) (x y : Int) : Option Value :=
  match op with
  | .add => some (.int k (k.wrap (x + y)))
  | .sub => some (.int k (k.wrap (x - y)))
  | .mul => some (.int k (k.wrap (x * y)))
  | .and => some (.int k (iand k x y))
  | .or => some (.int k (ior k x y))
  | .xor => some (.int k (ixor k x y))
  | .andNot => some (.int k (iandn k x y))
  | .eql => some (.bool (x == y))
  | .neq => some (.bool (x != y))
  | .lss => some (.bool (decide (x < y)))
  | .leq => some (.bool (decide (x ≤ y)))
  | .gtr => some (.bool (decide (x > y)))
  | .geq => some (.bool (decide (x ≥ y)))
  | _ => none

def strE (op : BinOp) (x y : ByteArray) : Option Value :=
  match op with
  | .eql => some (.bool (x.toList == y.toList))
  | .neq => some (.bool (!(x.toList == y.toList)))
  | .lss => some (.bool (Op.bytesLess x.toList y.toList))
  | .leq => some (.bool (Op.bytesLess x.toList y.toList || x.toList == y.toList))
  | .gtr => some (.bool (!(Op.bytesLess x.toList y.toList || x.toList == y.toList)))
  | .geq => some (.bool (!Op.bytesLess x.toList y.toList))
  | _ => none

/-- operands for which '==' asks the type -/
def deepV : Value → Bool
  | .bool _ => true
  | .agg _ => true
  | .pointer _ => true
  | .slice _ _ _ => true
  | .func _ _ _ => true
  | .nilFunc => true
  | _ => false

def eqE (T : TT) (op : BinOp) (t : Nat) (x y : Value) : Option Value :=
  match op with
  | .eql => match eqv T 20 t x y with | some b => some (.bool b) | none => none
  | .neq => match eqv T 20 t x y with | some b => some (.bool (!b)) | none => none
  | _ => none

def binE (T : TT) (op : BinOp) (t : Nat) (x y : Value) : Option Value :=
  match x, y with
  | .int k a, .int k' b => match kEq k k' with | true => intE op k a b | false => none
  | .string a, .string b => strE op a b
  | x, y => match deepV x && deepV y with | true => eqE T op t x y | false => none

def pickE (σ : Env) (δ : Den) (cur : Path) (s : Nat) (b : Bool) (x y : Operand) : Option Value :=
  match x with
  | .const (.bool true) => match ev σ δ ((s, false) :: cur) y with
    | some (.bool c) => some (.bool (b || c))
    | _ => match b with | true => some (.bool true) | false => none
  | x => match y with
    | .const (.bool false) => match ev σ δ ((s, true) :: cur) x with
      | some (.bool c) => some (.bool (b && c))
      | _ => match b with | false => some (.bool false) | true => none
    | _ => none

def cellsL : Value → List Value
  | .agg cs => cs.toList
  | v => [v]
def fillL (T : TT) (fs : List Field) : List Value → List (Nat × Value) → Option (List Value)
  | zs, [] => some zs
  | zs, (i, v) :: r => match fs[i]? with
    | some ⟨_, ft, o, _, _, _, _⟩ => match sizeT T ft with
      | some j => match Nat.beq (cellsL v).length j with
        | true => match setE zs o (cellsL v) with
          | some zs' => fillL T fs zs' r
          | none => none
        | false => none
      | none => none
    | none => none
def evParts (σ : Env) (δ : Den) (cur : Path) : List (Nat × Operand) → Option (List (Nat × Value))
  | [] => some []
  | (i, x) :: r => match ev σ δ cur x with
    | some v => match evParts σ δ cur r with
      | some vs => some ((i, v) :: vs)
      | none => none
    | none => none

/-- every field's type is known -/
def fieldsKnown (T : TT) : List Field → Bool
  | [] => true
  | f :: fs => match tlk T f.type with | some _ => fieldsKnown T fs | none => false

def lenE (T : TT) (σ : Env) (δ : Den) (cur : Path) (c : Call) : Option Value :=
  match c.callee with
  | .builtin .len => match c.args.toList, c.argTypes.toList with
    | [x], [t] => match und T t, ev σ δ cur x with
      | some .string, some (.string s) => some (.int .i64 (s.size : Int))
      | some (.slice _), some (.slice _ n _) => some (.int .i64 (n : Int))
      | _, _ => none
    | _, _ => none
  | _ => none

def pev (T : TT) (σ : Env) (δ : Den) (cur : Path) : Op → Option Value
  | .move x => ev σ δ cur x
  | .assign x => ev σ δ cur x
  | .pick c x y => match c with
    | .tmp s => match lka σ δ cur s with
      | some (.bool b) => pickE σ δ cur s b x y
      | _ => none
    | _ => none
  | .fieldAddr s x f => match ev σ δ cur x with
    | some (.pointer (some ⟨b, off, none⟩)) => match und T s with
      | some (.struct fs) => match fs.toList[f]? with
        | some ⟨_, ft, o, _, _, _, _⟩ => match sizeT T ft with
          | some (_ + 1) => some (.pointer (some ⟨b, off + o, none⟩))
          | _ => none
        | none => none
      | _ => none
    | _ => none
  | .field s x f => match ev σ δ cur x with
    | some (.agg cs) => match und T s with
      | some (.struct fs) => match fs.toList[f]? with
        | some ⟨_, ft, o, _, _, _, _⟩ => partL T ft cs.toList o
        | none => none
      | _ => none
    | _ => none
  | .binOp op t x y _ => match ev σ δ cur x with
    | some a => match ev σ δ cur y with
      | some b => binE T op t a b
      | none => none
    | none => none
  | .unOp op _ x => match op, ev σ δ cur x with
    | .not, some (.bool b) => some (.bool !b)
    | .neg, some (.int k n) => some (.int k (k.wrap (0 - n)))
    | _, _ => none
  | .convert s d x => match und T s, und T d, ev σ δ cur x with
    | some _, some (.int k), some (.int _ n) => some (.int k (k.wrap n))
    | some _, some .string, some (.string s) => some (.string s)
    | _, _, _ => none
  | .extract x i => match ev σ δ cur x with
    | some (.tuple vs) => vs.toList[i]?
    | _ => none
  | .makeFunc fn first captured => match evs σ δ cur first.toList with
    | some a => match evs σ δ cur captured.toList with
      | some b => some (.func fn ⟨a⟩ ⟨b⟩)
      | none => none
    | none => none
  | .nilCheck x => match ev σ δ cur x with
    | some (.pointer (some a)) => some (.pointer (some a))
    | some (.func (.func f) a b) => some (.func (.func f) a b)
    | some (.func (.yield f) a b) => some (.func (.yield f) a b)
    | _ => none
  | .build t parts => match und T t with
    | some (.struct fs) => match zeroT T t with
        | some (.agg zs) => match evParts σ δ cur parts.toList with
          | some ps => match fieldsKnown T fs.toList with
            | true => match fillL T fs.toList zs.toList ps with
              | some cs => some (.agg ⟨cs⟩)
              | none => none
            | false => none
          | none => none
        | _ => none
    | _ => none
  | .call c => lenE T σ δ cur c
  | _ => none

section
variable {P : Program} {T : TT} {ro : Option Nat} {σ : Env} {δ : Den} {cur : Path} {M : Mem} {L : HL} {d : Option Nat} {op : Op} {ty : TypeId} {pos : String} {aft : Array Edge} {g : Option (Nat × Bool)} {v : Value}

theorem qt_of_run (hs : ∀ ρ, Oper.semAt ro ρ ⟨d, op, ty, pos, aft, g⟩ = execOp ρ ⟨d, op, ty, pos, aft, g⟩)
    (h : ∀ a w, Sees σ δ a → holds a cur → Hp M L w → (execOp a.eval ⟨d, op, ty, pos, aft, g⟩).run P w = .ok (.value v) w) : Qt P ro ⟨d, op, ty, pos, aft, g⟩ σ δ cur M L v :=
  fun a w h1 h2 h3 => opWp_value (by rw [hs]; exact h a w h1 h2 h3) ⟨M, L, h3, rfl, rfl, rfl⟩

theorem semAt_of (h : ∀ c, op ≠ .defer c) : ∀ ρ, Oper.semAt ro ρ ⟨d, op, ty, pos, aft, g⟩ = execOp ρ ⟨d, op, ty, pos, aft, g⟩ := fun ρ => Oper.semAt_eq _ _ _ h

theorem intE_ok {bo : BinOp} {k : IntKind} {x y : Int} (h : intE bo k x y = some v) (t : TypeId) (w : World) : (binOp bo t (.int k x) (.int k y)).run P w = .ok v w := by
  cases bo <;> simp only [intE] at h <;> first | (cases h; done) | skip
  all_goals (injection h with h; subst h; simp [binOp, Op.intArith, Op.intBits, Op.intCmp, iand, ior, ixor, iandn])

theorem strE_ok {bo : BinOp} {x y : ByteArray} (h : strE bo x y = some v) (t : TypeId) (w : World) : (binOp bo t (.string x) (.string y)).run P w = .ok v w := by
  cases bo <;> simp only [strE] at h <;> first | (cases h; done) | skip
  all_goals (injection h with h; subst h; simp [binOp, Op.stringOp])

theorem eqE_ok (hT : TOk P T) {bo : BinOp} {t : TypeId} {x y : Value} (hx : deepV x = true) (hy : deepV y = true) (h : eqE T bo t x y = some v) (w : World) : (binOp bo t x y).run P w = .ok v w := by
  have key : ∀ b, eqv T 20 t x y = some b → ∀ w, (Op.equal t x y).run P w = .ok b w := fun b hb w => eqv_ok hT hb _ (by decide) w
  cases bo <;> simp only [eqE] at h <;> first | (cases h; done) | skip
  · split at h
    · rename_i b hb
      cases h
      have := key b hb w
      cases x <;> first | (cases hx; done) | skip
      all_goals (cases y <;> first | (cases hy; done) | skip)
      all_goals simp [binOp, this]
    · cases h
  · split at h
    · rename_i b hb
      cases h
      have := key b hb w
      cases x <;> first | (cases hx; done) | skip
      all_goals (cases y <;> first | (cases hy; done) | skip)
      all_goals simp [binOp, this]
    · cases h

theorem guard_ok (hT : TOk P T) {bo : BinOp} {t : TypeId} {x y : Value} (xo yo : Operand) (h : binE T bo t x y = some v) (w : World) : (eqGuard bo t xo yo x y).run P w = .ok () w := by
  unfold eqGuard
  cases bo <;> first | rfl | skip
  all_goals
    cases x <;> cases y <;> first | rfl | skip
    · simp [binE, deepV] at h
    · rename_i a b
      simp only [binE, deepV, eqE, Bool.and_self] at h
      have : ∃ i, tlk T t = some i := by
        split at h
        · rename_i c hc
          cases hi : tlk T t with
          | some i => exact ⟨i, rfl⟩
          | none => simp [eqv, und, hi] at hc
        · cases h
      obtain ⟨i, hi⟩ := this
      simp [hT.guard t i hi]

theorem binE_ok (hT : TOk P T) {bo : BinOp} {t : TypeId} {x y : Value} (h : binE T bo t x y = some v) (w : World) : (binOp bo t x y).run P w = .ok v w := by
  unfold binE at h
  split at h
  · split at h
    · rename_i hk
      have := kEq_eq hk; subst this
      exact intE_ok h t w
    · cases h
  · exact strE_ok h t w
  · split at h
    · rename_i hx
      rw [Bool.and_eq_true] at hx
      exact eqE_ok hT hx.1 hx.2 h w
    · cases h

theorem cellsL_eq (v : Value) : v.cells = ⟨cellsL v⟩ := by cases v <;> rfl

theorem foldl_set (off : Nat) : ∀ (vs : List Value) (i : Nat) (cs : Array Value), off + i + vs.length ≤ cs.size →
    (vs.zipIdx i).foldl (fun (cs : Array Value) (x : Value × Nat) => cs.setIfInBounds (off + x.2) x.1) cs = ⟨setSeg cs.toList (off + i) vs⟩
  | [], i, cs, _ => by simp [setSeg]
  | v :: vs, i, cs, h => by
    simp only [List.length_cons] at h
    simp only [List.zipIdx_cons, List.foldl_cons]
    rw [foldl_set off vs (i + 1) _ (by simp; omega)]
    apply Array.ext'
    simp only [setSeg, Array.toList_setIfInBounds, List.length_cons]
    have hl : off + i < cs.toList.length := by simp; omega
    apply List.ext_getElem?
    intro j
    simp only [List.append_assoc, List.getElem?_append, List.length_take, List.length_set, List.getElem?_take, List.getElem?_set, List.getElem?_drop, Array.length_toList, List.length_cons, List.getElem?_cons]
    have e1 : min (off + (i + 1)) cs.size = off + i + 1 := by omega
    have e2 : min (off + i) cs.size = off + i := by omega
    rw [e1, e2]
    by_cases c1 : j < off + i
    · rw [if_pos (by omega), if_pos (by omega), if_neg (by omega), if_pos c1, if_pos c1]
    · rw [if_neg c1]
      by_cases c2 : j = off + i
      · subst c2
        rw [if_pos (by omega), if_pos (by omega), if_pos rfl, if_pos (by omega), if_pos (by omega), if_pos (by omega)]
      · rw [if_neg (by omega)]
        by_cases c3 : j - (off + i + 1) < vs.length
        · rw [if_pos c3, if_pos (by omega), if_neg (by omega)]
          congr 1
        · rw [if_neg c3, if_neg (by omega), if_neg (by omega)]
          congr 1; omega

theorem fill_ok (hT : TOk P T) {fs : Array Field} {places : Array (Nat × Nat)} (hp : ∀ (i : Nat) (f : Field) (j : TypeInfo), fs.toList[i]? = some f → tlk T f.type = some j → places[i]? = some (f.offset, j.size)) :
    ∀ (ps : List (Nat × Value)) (zs : List Value) {cs : List Value}, fillL T fs.toList zs ps = some cs → Instr.fill (places[·]?) ⟨zs⟩ ps = some ⟨cs⟩
  | [], zs, cs, h => by simp [fillL] at h; subst h; rfl
  | (i, v) :: r, zs, cs, h => by
    simp only [fillL] at h
    split at h
    · rename_i nm ft o em tg pk bo hf
      split at h
      · rename_i j hj
        obtain ⟨ti, hti, rfl⟩ := sizeT_ok hj
        split at h
        · rename_i hsz
          have hsz := Nat.eq_of_beq_eq_true hsz
          split at h
          · rename_i zs' hzs'
            obtain ⟨rfl, hle⟩ := setE_ok hzs'
            simp only [Instr.fill, hp i _ ti hf hti]
            have hvs : v.cells.size = (cellsL v).length := by rw [cellsL_eq]; rfl
            rw [if_neg (by simp [hvs]; omega)]
            rw [← fill_ok hT hp r _ h]
            congr 1
            rw [cellsL_eq]
            have := foldl_set o (cellsL v) 0 ⟨zs⟩ (by simpa using hle)
            simp only [Nat.add_zero] at this
            rw [← Array.foldl_toList, Array.toList_zipIdx]
            exact this
          · cases h
        · cases h
      · cases h
    · cases h

theorem evParts_ok {a : Act} (hs : Sees σ δ a) (hc : holds a cur) : ∀ {l : List (Nat × Operand)} {ps : List (Nat × Value)}, evParts σ δ cur l = some ps → l.map (fun x => (x.1, a.eval x.2)) = ps
  | [], ps, h => by simp [evParts] at h; simpa using h
  | (i, x) :: l, ps, h => by
    simp only [evParts] at h
    split at h
    · rename_i v e
      split at h
      · rename_i vs e'
        cases h
        simp [ev_sound hs hc e, evParts_ok hs hc e']
      · cases h
    · cases h

theorem mapM_places (hT : TOk P T) (w : World) : ∀ (fs : List Field), (∀ f ∈ fs, ∃ j, tlk T f.type = some j) → ∃ pl : List (Nat × Nat), (fs.mapM (fun f => do pure (f.offset, ← sizeOf f.type)) : Sem (List (Nat × Nat))).run P w = .ok pl w ∧
    ∀ (i : Nat) (f : Field) (j : TypeInfo), fs[i]? = some f → tlk T f.type = some j → pl[i]? = some (f.offset, j.size)
  | [], _ => ⟨[], by simp, fun i f j h => by simp at h⟩
  | f :: fs, h => by
    obtain ⟨j, hj⟩ := h f (by simp)
    obtain ⟨pl, hr, hp⟩ := mapM_places hT w fs (fun f hf => h f (List.mem_cons_of_mem _ hf))
    refine ⟨(f.offset, j.size) :: pl, by simp only [List.mapM_cons, Sem.run_bind, run_size hT hj, Result.andThen_ok, Sem.run_pure, hr], fun i f' j' hi hj' => ?_⟩
    cases i with
    | zero => simp at hi; subst hi; rw [hj] at hj'; cases hj'; simp
    | succ i => simp at hi ⊢; exact hp i f' j' hi hj'

theorem fieldsKnown_ok : ∀ {fs : List Field}, fieldsKnown T fs = true → ∀ f ∈ fs, ∃ j, tlk T f.type = some j
  | [], _, f, hf => by cases hf
  | f' :: fs, h, f, hf => by
    simp only [fieldsKnown] at h
    split at h
    · rename_i j hj
      rcases List.mem_cons.1 hf with rfl | hf
      · exact ⟨j, hj⟩
      · exact fieldsKnown_ok h f hf
    · cases h

theorem add_none (b off n : Nat) : (⟨b, off, none⟩ : Addr).add n = ⟨b, off + n, none⟩ := by
  unfold Addr.add
  split
  · rename_i h; subst h; rfl
  · rfl

/-- what only computes -/
theorem qt_pev (hT : TOk P T) (h : pev T σ δ cur op = some v) : Qt P ro ⟨d, op, ty, pos, aft, g⟩ σ δ cur M L v := by
  have hdef : ∀ c, op ≠ .defer c := fun c e => by subst e; simp [pev] at h
  refine qt_of_run (semAt_of hdef) fun a w hs hc _ => ?_
  have hev : ∀ {x u}, ev σ δ cur x = some u → a.eval x = u := fun h => ev_sound hs hc h
  cases op <;> simp only [pev] at h <;> first | (cases h; done) | skip
  case move x => simp [execOp, hev h]
  case assign x => simp [execOp, hev h]
  case pick c x y =>
    split at h
    · rename_i s
      split at h
      · rename_i b hb
        have hsb := lka_sound hs hc hb
        have hcb : a.eval (.tmp s) = .bool b := by simp [Act.eval, Array.getD_eq_getD_getElem?, hsb]
        simp only [execOp, Sem.run_bind, hcb, asBool, Sem.run_pure, Result.andThen_ok]
        have hcons : ∀ b', b = b' → holds a ((s, b') :: cur) := fun b' e x hx => by
          rcases List.mem_cons.1 hx with rfl | hx
          · rw [← e]; exact hsb
          · exact hc x hx
        unfold pickE at h
        split at h
        · split at h
          · rename_i c' hc'
            cases h
            cases b
            · simp [ev_sound hs (hcons false rfl) hc']
            · simp [Act.eval]
          · split at h
            · cases h; simp [Act.eval]
            · cases h
        · split at h
          · split at h
            · rename_i c' hc'
              cases h
              cases b
              · simp [Act.eval]
              · simp [ev_sound hs (hcons true rfl) hc']
            · split at h
              · cases h; simp [Act.eval]
              · cases h
          · cases h
      · cases h
    · cases h
  case fieldAddr s x f =>
    split at h
    · rename_i b off hx
      split at h
      · rename_i fs hu
        split at h
        · rename_i hf
          split at h
          · rename_i n hi
            cases h
            rw [Array.getElem?_toList] at hf
            simp [execOp, hev hx, Instr.fieldAt, run_und hT hu, hf, Instr.sureAddr, fieldPlace, run_sizeT hT hi, add_none]
          · cases h
        · cases h
      · cases h
    · cases h
  case field s x f =>
    split at h
    · rename_i cs hx
      split at h
      · rename_i fs hu
        split at h
        · rename_i hf
          rw [Array.getElem?_toList] at hf
          simp [execOp, hev hx, Instr.field, run_und hT hu, hf, asAgg, run_part hT h]
        · cases h
      · cases h
    · cases h
  case binOp bo t x y u =>
    split at h
    · rename_i va ha
      split at h
      · rename_i vb hb
        simp [execOp, hev ha, hev hb, guard_ok hT x y h, binE_ok hT h]
      · cases h
    · cases h
  case unOp uo t x =>
    split at h
    · rename_i b hx; cases h; simp [execOp, hev hx, Op.unary]
    · rename_i k n hx; cases h; simp [execOp, hev hx, Op.unary, Op.intArith]
    · cases h
  case convert s t x =>
    split at h
    · rename_i u k k' n hs' hu hx
      cases h
      simp [execOp, hev hx, convert, run_und hT hs', run_und hT hu, Conv.intToInt]
    · rename_i u s' hs' hu hx
      cases h
      simp [execOp, hev hx, convert, run_und hT hs', run_und hT hu]
    · cases h
  case extract x i =>
    split at h
    · rename_i vs hx
      rw [Array.getElem?_toList] at h
      simp [execOp, hev hx, Instr.extract, h]
    · cases h
  case makeFunc fn first captured =>
    split at h
    · rename_i va ha
      split at h
      · rename_i vb hb
        cases h
        have h1 := evs_sound hs hc ha
        have h2 := evs_sound hs hc hb
        have e1 : first.map a.eval = ⟨va⟩ := by apply Array.ext'; simpa using h1
        have e2 : captured.map a.eval = ⟨vb⟩ := by apply Array.ext'; simpa using h2
        simp [execOp, Instr.makeFunc, e1, e2]
      · cases h
    · cases h
  case nilCheck x =>
    split at h
    · rename_i b hx; cases h; simp [execOp, hev hx]
    · rename_i f x1 x2 hx; cases h; simp [execOp, hev hx]
    · rename_i f x1 x2 hx; cases h; simp [execOp, hev hx]
    · cases h
  case build t parts =>
    split at h
    · rename_i fs hu
      split at h
      · rename_i zs hz
        split at h
        · rename_i ps hps
          split at h
          · rename_i hk
            split at h
            · rename_i cs hcs
              · cases h
                obtain ⟨pl, hr, hp⟩ := mapM_places hT w fs.toList (fieldsKnown_ok hk)
                have hf := fill_ok hT (places := ⟨pl⟩) (fun i f j h1 h2 => by simpa using hp i f j h1 h2) ps zs.toList hcs
                have hparts : (parts.map fun x => (x.1, a.eval x.2)).toList = ps := by simpa using evParts_ok hs hc hps
                have hm : (fs.mapM (fun f => do pure (f.offset, ← sizeOf f.type)) : Sem (Array (Nat × Nat))).run P w = .ok ⟨pl⟩ w := by
                  rw [Array.mapM_eq_mapM_toList]
                  simp only [Sem.run_map, hr, Result.andThen_ok]
                simp only [execOp, Instr.build, Sem.run_bind, run_zeroT hT hz, Result.andThen_ok, Sem.run_pure, run_und hT hu, hm, hparts, Value.cells, hf]
            · cases h
          · cases h
        · cases h
      · cases h
    · cases h
  case call c =>
    obtain ⟨callee, args, argTypes⟩ := c
    unfold lenE at h
    split at h
    · rename_i hcal
      simp only at hcal
      subst hcal
      split at h
      · rename_i x t hargs htys
        have hargs' : args = #[x] := by apply Array.ext'; simpa using hargs
        have htys' : argTypes = #[t] := by apply Array.ext'; simpa using htys
        subst hargs' htys'
        split at h
        · rename_i s hu hx; cases h; simp [execOp, resolve, invoke, builtin, Builtin.len_, hev hx, run_und hT hu, goInt]
        · rename_i e n c hu hx; cases h; simp [execOp, resolve, invoke, builtin, Builtin.len_, hev hx, run_und hT hu, goInt]
        · cases h
      · cases h
    · cases h
end
end Go.Chi
