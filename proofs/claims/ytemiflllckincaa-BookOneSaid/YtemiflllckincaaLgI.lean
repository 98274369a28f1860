import Derived.Test.YtemiflllckincaaLgH
namespace Go.Chi

/-! ### append -/
/-- v is a slice of n elements, its own array's, whose cells are xs; N is that array's block -/
def OS (e size : Nat) (v : Value) (n : Nat) (xs : List Value) (N : HL) : Prop :=
  (v = .slice none 0 0 ∧ n = 0 ∧ xs = [] ∧ N = []) ∨
  (∃ b cap cs, v = .slice (some ⟨b, 0, none⟩) n cap ∧ N = [(b, .cells ⟨cs⟩ e (0, 0))] ∧ n ≤ cap ∧ cs.length = cap * size ∧ cs.take (n * size) = xs)

theorem OS.nil (e size : Nat) : OS e size (.slice none 0 0) 0 [] [] := .inl ⟨rfl, rfl, rfl, rfl⟩

theorem OS.len {e size : Nat} {v : Value} {n : Nat} {xs : List Value} {N : HL} (h : OS e size v n xs N) : xs.length = n * size := by
  rcases h with ⟨_, rfl, rfl, _⟩ | ⟨b, cap, cs, _, _, hle, hl, rfl⟩
  · simp
  · rw [List.length_take, hl]; exact Nat.min_eq_left (Nat.mul_le_mul_right _ hle)

/-- what is appended -/
def Src (M : Mem) (L : HL) (size : Nat) (x : Value) (m : Nat) (news : List Value) : Prop :=
  (x = .slice none 0 0 ∧ m = 0 ∧ news = []) ∨ (∃ b off cap, x = .slice (some ⟨b, off, none⟩) m cap ∧ Cells M L b off news ∧ news.length = m * size)

/-- the same, but of an empty slice nothing else is asked -/
def SrcG (M : Mem) (L : HL) (size : Nat) (x : Value) (m : Nat) (news : List Value) : Prop :=
  (∃ a cap, x = .slice a 0 cap ∧ m = 0 ∧ news = []) ∨ (∃ b off cap, x = .slice (some ⟨b, off, none⟩) m cap ∧ Cells M L b off news ∧ news.length = m * size)
theorem Src.g {M : Mem} {L : HL} {size : Nat} {x : Value} {m : Nat} {news : List Value} (h : Src M L size x m news) : SrcG M L size x m news := by
  rcases h with ⟨h1, h2, h3⟩ | h
  · exact .inl ⟨none, 0, h1, h2, h3⟩
  · exact .inr h

section
variable {P : Program} {T : TT} {ro : Option Nat} {σ : Env} {δ : Den} {cur : Path} {M : Mem} {L : HL} {d : Option Nat} {op : Op} {ty : TypeId} {pos : String} {aft : Array Edge} {g : Option (Nat × Bool)} {v : Value}

theorem growBy_le (newLen : Nat) : ∀ (r c : Nat), c ≤ newLen → Builtin.growBy newLen r c ≤ newLen + (newLen + 768) / 4
  | 0, c, h => by simp only [Builtin.growBy]; omega
  | r + 1, c, h => by
    simp only [Builtin.growBy]
    split
    · omega
    · by_cases hc : c + (c + 768) / 4 ≤ newLen
      · exact growBy_le newLen r _ hc
      · cases r with
        | zero => simp only [Builtin.growBy]; omega
        | succ r => simp only [Builtin.growBy]; rw [if_pos (by omega)]; omega

theorem nextcap_le {need old : Nat} (h : old < need) : Builtin.nextslicecap need old ≤ 2 * need + 192 := by
  unfold Builtin.nextslicecap
  split
  · omega
  · split
    · omega
    · have := growBy_le need 4 old (by omega)
      omega

theorem run_firstCells {w : World} (h : Hp M L w) {size : Nat} {x : Value} {m : Nat} {news : List Value} (hs : SrcG M L size x m news) : (Builtin.firstCells size m x).run P w = .ok ⟨news⟩ w := by
  rcases hs with ⟨a, cap, rfl, rfl, rfl⟩ | ⟨b, off, cap, rfl, hc, hl⟩
  · cases a with
    | none => simp [Builtin.firstCells]
    | some a => simp only [Builtin.firstCells, Nat.zero_mul, loadCells]; rfl
  · have := run_loadCells (P := P) h news [] (by simpa using hc)
    simp only [List.length_nil, List.nil_append] at this
    simp only [Builtin.firstCells, loadCells, ← hl]
    exact this

theorem zeroCells_size (z : Array Value) (n : Nat) : (Builtin.zeroCells z n).size = n * z.size := by simp [Builtin.zeroCells]

theorem st_append' (hT : TOk P T) {s x : Operand} {t e : TypeId} {i : TypeInfo} {z : Value} {n m : Nat} {xs news : List Value} {xv : Value} {N L0 : HL}
    (hs : ev σ δ cur s = some v) (hx : ev σ δ cur x = some xv) (ht : und T t = some (.slice e)) (hi : tlk T e = some i) (hz : i.zero = some z) (hzs : (cellsL z).length = i.size) (hby : i.bytes ≠ 0)
    (hL : L.Perm (N ++ L0)) (ho : OS e i.size v n xs N) (hsrc : SrcG M L i.size xv m news) (h1 : ∀ u ∈ news, u.oneCell' = true) (hroom : (2 * (n + m) + 192) * i.bytes ≤ 281474976710656) (h63 : n + m < 9223372036854775808) :
    St P ro ⟨d, .call ⟨.builtin .append, #[s, x], #[t, t]⟩, ty, pos, aft, g⟩ σ δ cur M L (fun v' M' L' => ∃ N', M = M' ∧ L' = N' ++ L0 ∧ OS e i.size v' (n + m) (xs ++ news) N') := fun a w hse hcur hp => by
  have hlen := ho.len
  have hes := ev_sound hse hcur hs
  have hex := ev_sound hse hcur hx
  have hp' := hp.perm hL
  have hfirst := run_firstCells (P := P) hp hsrc
  have hlx : ∀ w, (Builtin.lenOf xv).run P w = .ok m w := fun w => by
    rcases hsrc with ⟨_, _, rfl, rfl, _⟩ | ⟨b, off, cap, rfl, _⟩ <;> simp [Builtin.lenOf]
  -- the slice, its base and capacity
  obtain ⟨base, cap, rfl⟩ : ∃ base cap, v = .slice base n cap := by
    rcases ho with ⟨rfl, rfl, _⟩ | ⟨b, cap, cs, rfl, _⟩
    · exact ⟨none, 0, rfl⟩
    · exact ⟨_, cap, rfl⟩
  have hexec : ∀ (r : Result Value), (Builtin.append_ #[t, t] ty #[.slice base n cap, xv]).run P w = r → (execOp a.eval ⟨d, .call ⟨.builtin .append, #[s, x], #[t, t]⟩, ty, pos, aft, g⟩).run P w = r.andThen fun v w' => .ok (.value v) w' := fun r hr => by
    simp only [execOp, resolve, Sem.run_bind, Sem.run_pure, Result.andThen_ok, invoke, builtin, List.map_toArray, List.map_cons, List.map_nil, hes, hex, hr]
  have hund := run_und hT ht
  by_cases hcap : n + m ≤ cap
  · -- in place
    rcases ho with ⟨hv, rfl, rfl, rfl⟩ | ⟨b, cap', cs, hv, rfl, hle, hcl, hxs⟩
    · injection hv with e1 e2 e3
      subst e1 e3
      have hm0 : m = 0 := by omega
      subst hm0
      have hn0 : news = [] := by
        rcases hsrc with ⟨_, _, _, _, h⟩ | ⟨_, _, _, _, _, h⟩
        · exact h
        · exact List.length_eq_zero_iff.1 (by simpa using h)
      subst hn0
      refine opWp_value (v := .slice none 0 0) (w' := w) ?_ ⟨M, L0, by simpa using hp', [], rfl, by simp, .inl ⟨rfl, rfl, by simp, rfl⟩⟩
      rw [semAt_of (by intro c e; cases e), hexec (.ok (.slice none 0 0) w)]
      · rfl
      · simp [Builtin.append_, hund, run_size hT hi, hlx, hfirst]
    · injection hv with e1 e2 e3
      subst e1 e3
      have hnl : news.length = m * i.size := by
        rcases hsrc with ⟨_, _, _, rfl, rfl⟩ | ⟨_, _, _, _, _, h⟩
        · simp
        · exact h
      have hb : w.heap[b]? = some (.cells ⟨cs⟩ e (0, 0)) := hp'.own (b, .cells ⟨cs⟩ e (0, 0)) (by simp)
      have hle2 : n * i.size + news.length ≤ cs.length := by rw [hnl, hcl, ← Nat.add_mul]; exact Nat.mul_le_mul_right _ hcap
      have hrun := run_storeCells_at (P := P) b (n * i.size) e news 0 ⟨cs⟩ w hb (by simpa using hle2) h1
      simp only [Nat.add_zero] at hrun
      refine opWp_value (v := .slice (some ⟨b, 0, none⟩) (n + m) cap) (w' := w.setRow b ⟨setSeg cs (n * i.size) news⟩) ?_ ⟨M, (b, .cells ⟨setSeg cs (n * i.size) news⟩ e (0, 0)) :: L0, ?_, [(b, .cells ⟨setSeg cs (n * i.size) news⟩ e (0, 0))], rfl, rfl, .inr ⟨b, cap, _, rfl, rfl, hcap, ?_, ?_⟩⟩
      · rw [semAt_of (by intro c e; cases e), hexec (.ok (.slice (some ⟨b, 0, none⟩) (n + m) cap) (w.setRow b ⟨setSeg cs (n * i.size) news⟩))]
        · rfl
        · simp only [Builtin.append_, Sem.run_bind, run_size hT hi, hlx, hfirst, Result.andThen_ok, hund, hcap, if_true, Sem.run_pure, Bool.false_eq_true, if_false, Bool.not_false, List.getElem?_toArray, List.getElem?_cons_zero, List.getElem?_cons_succ, add_none, Nat.zero_add, hrun]
          simp [setSeg]
      · exact hp'.setRow (Upd.here _ _ _ _)
      · simp [setSeg]; omega
      · rw [Nat.add_mul, ← hnl]
        have hx' : xs.length = n * i.size := hlen
        unfold setSeg
        rw [hxs, List.take_append_of_le_length (by simp; omega)]
        rw [← hx', ← List.length_append]
        exact List.take_length
  · -- a new array
    have hold : ∀ w, Hp M L w → (Builtin.firstCells i.size n (.slice base n cap)).run P w = .ok ⟨xs⟩ w := fun w hw => by
      refine run_firstCells hw ?_
      rcases ho with ⟨hv, rfl, rfl, rfl⟩ | ⟨b, cap', cs, hv, rfl, hle, hcl, hxs⟩
      · exact .inl ⟨none, 0, hv, rfl, rfl⟩
      · refine .inr ⟨b, 0, cap, ?_, ?_, hlen⟩
        · injection hv with e1 e2 e3; rw [e1]
        · refine ⟨⟨cs⟩, e, (0, 0), .inl (hL.mem_iff.2 (by simp)), fun j u hu => ?_⟩
          rw [← hxs, List.getElem?_take] at hu
          split at hu
          · simpa using hu
          · cases hu
    have hlt : cap < n + m := by omega
    have hnext : ¬ Builtin.nextslicecap (n + m) cap * i.bytes > 2 ^ 48 := by
      have h2 := Nat.mul_le_mul_right i.bytes (nextcap_le hlt)
      have : (2 : Nat) ^ 48 = 281474976710656 := by decide
      omega
    obtain ⟨nc, hnc, hnc2⟩ : ∃ nc, nc = (Question.appendCap (n + m) cap e).cut (w.tape w.drawn (.appendCap (n + m) cap e)) ∧ n + m ≤ nc := ⟨_, rfl, by simp [Question.cut]⟩
    have hd := hp.drawn (w.drawn + 1)
    have hfirst' := run_firstCells (P := P) hd hsrc
    have hold' := hold _ hd
    have hnl : news.length = m * i.size := by
      rcases hsrc with ⟨_, _, _, rfl, rfl⟩ | ⟨_, _, _, _, _, h⟩
      · simp
      · exact h
    let nb : Array Value := ⟨xs⟩ ++ ⟨news⟩ ++ Builtin.zeroCells z.cells (nc - (n + m))
    have hnb : nb = ⟨nb.toList⟩ := rfl
    have hpush := hd.push (.cells nb e (0, 0))
    refine opWp_value (v := .slice (some ⟨w.heap.size, 0, none⟩) (n + m) nc) (w' := { w with drawn := w.drawn + 1, heap := w.heap.push (.cells nb e (0, 0)) }) ?_ ⟨M, (w.heap.size, .cells nb e (0, 0)) :: L0, ?_, [(w.heap.size, .cells nb e (0, 0))], rfl, rfl, .inr ⟨w.heap.size, nc, nb.toList, rfl, rfl, hnc2, ?_, ?_⟩⟩
    · rw [semAt_of (by intro c e; cases e), hexec (.ok (.slice (some ⟨w.heap.size, 0, none⟩) (n + m) nc) { w with drawn := w.drawn + 1, heap := w.heap.push (.cells nb e (0, 0)) })]
      · rfl
      · have hbz : ¬ (i.bytes = 0) := hby
        simp only [Builtin.append_, Sem.run_bind, run_size hT hi, hlx, Result.andThen_ok, hund, hcap, if_false, Sem.run_pure, Bool.false_eq_true, Bool.not_false, if_true, List.getElem?_toArray, List.getElem?_cons_zero, List.getElem?_cons_succ, run_info hT hi, hbz, or_self, and_false, Sem.run_ite, hnext, run_choose, Question.forced, run_askRoom, ← hnc, hold', hfirst', zeroValue, hz]
        rfl
    · have h3 : Hp M ((w.heap.size, .cells nb e (0, 0)) :: (N ++ L0)) { w with drawn := w.drawn + 1, heap := w.heap.push (.cells nb e (0, 0)) } := hpush.perm (List.Perm.cons _ hL)
      have h4 : Hp M (N ++ ((w.heap.size, .cells nb e (0, 0)) :: L0)) { w with drawn := w.drawn + 1, heap := w.heap.push (.cells nb e (0, 0)) } := h3.perm (by simpa using List.perm_middle.symm)
      exact h4.dropAll
    · have hzc : z.cells.size = i.size := by rw [cellsL_eq]; exact hzs
      have : nb.toList.length = xs.length + news.length + (nc - (n + m)) * i.size := by
        rw [Array.length_toList]
        show ((⟨xs⟩ : Array Value) ++ ⟨news⟩ ++ Builtin.zeroCells z.cells (nc - (n + m))).size = _
        rw [Array.size_append, Array.size_append, zeroCells_size, hzc]
        rfl
      rw [this, hlen, hnl, ← Nat.add_mul, ← Nat.add_mul]
      congr 1; omega
    · have : nb.toList = (xs ++ news) ++ (Builtin.zeroCells z.cells (nc - (n + m))).toList := by simp [nb]
      rw [this]
      have hl2 : (xs ++ news).length = (n + m) * i.size := by rw [List.length_append, hlen, hnl, Nat.add_mul]
      rw [← hl2, List.take_left']
      rfl

theorem st_appendG (hT : TOk P T) {s x : Operand} {t e sz by_ : Nat} {z : Value} {n m : Nat} {xs news : List Value} {xv : Value} {N L0 : HL}
    (hs : ev σ δ cur s = some v) (hx : ev σ δ cur x = some xv) (ht : und T t = some (.slice e)) (hi : sizeT T e = some sz) (hz : zeroT T e = some z) (hzs : (cellsL z).length = sz) (hb : bytesT T e = some by_) (hby : Nat.ble 1 by_ = true)
    (hL : L.Perm (N ++ L0)) (ho : OS e sz v n xs N) (hsrc : SrcG M L sz xv m news) (h1 : ∀ u ∈ news, u.oneCell' = true) (hroom : (2 * (n + m) + 192) * by_ ≤ 281474976710656) (h63 : n + m < 9223372036854775808) :
    St P ro ⟨d, .call ⟨.builtin .append, #[s, x], #[t, t]⟩, ty, pos, aft, g⟩ σ δ cur M L (fun v' M' L' => ∃ N', M = M' ∧ L' = N' ++ L0 ∧ OS e sz v' (n + m) (xs ++ news) N') := by
  obtain ⟨i, hi1, rfl⟩ := sizeT_ok hi
  obtain ⟨i2, hi2, hz2⟩ := zeroT_ok hz
  obtain ⟨i3, hi3, rfl⟩ := bytesT_ok hb
  rw [hi1] at hi2 hi3
  cases hi2
  cases hi3
  exact st_append' hT hs hx ht hi1 hz2 hzs (by have := Nat.le_of_ble_eq_true hby; omega) hL ho hsrc h1 hroom h63

theorem st_append (hT : TOk P T) {s x : Operand} {t e sz by_ : Nat} {z : Value} {n m : Nat} {xs news : List Value} {xv : Value} {N L0 : HL}
    (hs : ev σ δ cur s = some v) (hx : ev σ δ cur x = some xv) (ht : und T t = some (.slice e)) (hi : sizeT T e = some sz) (hz : zeroT T e = some z) (hzs : (cellsL z).length = sz) (hb : bytesT T e = some by_) (hby : Nat.ble 1 by_ = true)
    (hL : L.Perm (N ++ L0)) (ho : OS e sz v n xs N) (hsrc : Src M L sz xv m news) (h1 : ∀ u ∈ news, u.oneCell' = true) (hroom : (2 * (n + m) + 192) * by_ ≤ 281474976710656) (h63 : n + m < 9223372036854775808) :
    St P ro ⟨d, .call ⟨.builtin .append, #[s, x], #[t, t]⟩, ty, pos, aft, g⟩ σ δ cur M L (fun v' M' L' => ∃ N', M = M' ∧ L' = N' ++ L0 ∧ OS e sz v' (n + m) (xs ++ news) N') :=
  st_appendG hT hs hx ht hi hz hzs hb hby hL ho hsrc.g h1 hroom h63

/-! ### a slice literal -/
def seqParts (size : Nat) : Nat → List (Nat × Value) → Bool
  | _, [] => true
  | j, (i, v) :: r => match Nat.beq i j with
    | true => match Nat.beq (cellsL v).length size with
      | true => seqParts size (j + 1) r
      | false => false
    | false => false
def flatParts : List (Nat × Value) → List Value
  | [] => []
  | (_, v) :: r => cellsL v ++ flatParts r

theorem fill_seq (size : Nat) : ∀ (ps : List (Nat × Value)) (j : Nat) (zs : List Value), seqParts size j ps = true → (j + ps.length) * size ≤ zs.length →
    Instr.fill (fun k => some (k * size, size)) ⟨zs⟩ ps = some ⟨zs.take (j * size) ++ flatParts ps ++ zs.drop ((j + ps.length) * size)⟩ ∧ (flatParts ps).length = ps.length * size
  | [], j, zs, _, _ => by simp [Instr.fill, flatParts]
  | (i, v) :: r, j, zs, h, hl => by
    simp only [seqParts] at h
    split at h
    · rename_i hi
      have hi := Nat.eq_of_beq_eq_true hi
      subst hi
      split at h
      · rename_i hs
        have hs := Nat.eq_of_beq_eq_true hs
        simp only [List.length_cons] at hl
        have hvs : v.cells.size = size := by rw [cellsL_eq]; exact hs
        have hle : i * size + size ≤ zs.length := by
          have : (i + 1) * size ≤ (i + (r.length + 1)) * size := Nat.mul_le_mul_right _ (by omega)
          rw [Nat.add_mul, Nat.one_mul] at this
          omega
        simp only [Instr.fill]
        rw [if_neg (by simp [hvs]; omega)]
        have hset : (v.cells.zipIdx.foldl (fun (cs : Array Value) (x : Value × Nat) => cs.setIfInBounds (i * size + x.2) x.1) ⟨zs⟩) = ⟨setSeg zs (i * size) (cellsL v)⟩ := by
          have := foldl_set (i * size) (cellsL v) 0 ⟨zs⟩ (by simp [hs]; omega)
          simp only [Nat.add_zero] at this
          rw [cellsL_eq, ← Array.foldl_toList, Array.toList_zipIdx]
          exact this
        have hlen : (setSeg zs (i * size) (cellsL v)).length = zs.length := by simp [setSeg, hs]; omega
        have hadd : i + 1 + r.length = i + (r.length + 1) := by omega
        obtain ⟨h1, h2⟩ := fill_seq size r (i + 1) (setSeg zs (i * size) (cellsL v)) h (by rw [hlen, hadd]; exact hl)
        refine ⟨?_, ?_⟩
        · show Instr.fill _ (v.cells.zipIdx.foldl (fun (cs : Array Value) (x : Value × Nat) => cs.setIfInBounds (i * size + x.2) x.1) ⟨zs⟩) r = _
          rw [hset, h1]
          congr 2
          have e1 : (setSeg zs (i * size) (cellsL v)).take ((i + 1) * size) = zs.take (i * size) ++ cellsL v := by
            unfold setSeg
            rw [Nat.add_mul, Nat.one_mul]
            rw [List.take_append_of_le_length (by simp [hs]; omega)]
            rw [List.take_of_length_le (by simp [hs]; omega)]
          have e2 : (setSeg zs (i * size) (cellsL v)).drop ((i + 1 + r.length) * size) = zs.drop ((i + (r.length + 1)) * size) := by
            unfold setSeg
            have hk : (i + 1 + r.length) * size = i * size + size + r.length * size := by rw [Nat.add_mul, Nat.add_mul, Nat.one_mul]
            have hk' : (i + (r.length + 1)) * size = i * size + size + r.length * size := by rw [← hk]; congr 1; omega
            have hA : (zs.take (i * size) ++ cellsL v).length = i * size + size := by simp [hs]; omega
            rw [hk, hk', List.drop_append, hA, List.drop_eq_nil_of_le (by omega), List.nil_append, List.drop_drop, hs]
            congr 1; omega
          rw [e1, e2]
          simp [flatParts]
        · simp only [flatParts, List.length_append, List.length_cons, h2, hs, Nat.add_mul, Nat.one_mul]; omega
      · cases h
    · cases h

theorem st_buildSlice (hT : TOk P T) {t e len sz : Nat} {z : Value} {parts : Array (Nat × Operand)} {ps : List (Nat × Value)} (ht : und T t = some (.slice e)) (hi : sizeT T e = some sz) (hz : zeroT T e = some z)
    (hx : evParts σ δ cur parts.toList = some ps) (hseq : seqParts sz 0 ps = true) (hl : ps.length = len) (hsz : Nat.ble (len * sz) 16777216 = true) :
    St P ro ⟨d, .buildSlice t len parts, ty, pos, aft, g⟩ σ δ cur M L (fun v' M' L' => ∃ b, v' = .slice (some ⟨b, 0, none⟩) len len ∧ M = M' ∧ L' = (b, .cells ⟨flatParts ps⟩ e (0, 0)) :: L) := fun a w hs hcur hp => by
  have hsz := Nat.le_of_ble_eq_true hsz
  refine opWp_value (v := .slice (some ⟨w.heap.size, 0, none⟩) len len) (w' := { w with heap := w.heap.push (.cells ⟨flatParts ps⟩ e (0, 0)) }) ?_ ⟨M, _, hp.push _, _, rfl, rfl, rfl⟩
  rw [semAt_of (by intro c e; cases e)]
  have hparts : (parts.map fun x => (x.1, a.eval x.2)).toList = ps := by simpa using evParts_ok hs hcur hx
  have hfill : ∀ zs : Array Value, zs.size = len * sz → Instr.fill (fun j => some (j * sz, sz)) zs ps = some ⟨flatParts ps⟩ := fun zs hzs' => by
    have h1 := (fill_seq sz ps 0 zs.toList hseq (by rw [hl]; simp [hzs'])).1
    rw [hl] at h1
    rw [show zs = ⟨zs.toList⟩ from rfl, h1]
    simp only [Nat.zero_mul, List.take_zero, List.nil_append, Nat.zero_add]
    rw [List.drop_eq_nil_of_le (by simp [hzs'])]
    simp
  have hlim : ¬ len * sz > 2 ^ 24 := by
    have : (2 : Nat) ^ 24 = 16777216 := by decide
    omega
  have hzv : (zeroValue e).run P w = .ok z w := run_zeroT hT hz w
  simp only [execOp, Instr.buildSlice, Sem.run_bind, run_und hT ht, Result.andThen_ok, run_sizeT hT hi, Sem.run_ite, hlim, if_false, Sem.run_pure, hparts]
  split
  · rw [hfill _ (by simp)]; rfl
  · rw [hzv]
    simp only [Result.andThen_ok]
    rw [hfill _ (by simp)]; rfl
end
end Go.Chi
