import Derived.Test.YtemiflllckincaaLgP
import Derived.ChangeBook
import Derived.ChangeSame
import Derived.ChangeArms
import Derived.Deep.Slices
import Derived.JoinedOf
import Derived.OpenShut
import Derived.Handed
namespace Go.Chi
open Go.ChangeShapes Go.WideShapes Go.RowKit

/-! ### from the given statement to a contract -/
def memOf (W : World) : Mem := ⟨fun b => W.heap[b]?, W.os, W.output, W.tape⟩
theorem hp_memOf (W : World) : Hp (memOf W) [] W := ⟨rfl, rfl, rfl, fun _ _ h => h, (fun _ h => by cases h), by simp, fun _ h => by cases h⟩
structure Keeps (W W' : World) : Prop where
  os : W'.os = W.os
  out : W'.output = W.output
  blk : ∀ b, b < W.heap.size → W'.heap[b]? = W.heap[b]?
theorem keeps_of {W W' : World} {M : Mem} {L : HL} (h : Hp M L W') (hle : (memOf W).le M) : Keeps W W' :=
  ⟨h.os.trans hle.os, h.out.trans hle.out, fun b hb => by
    have := Array.getElem?_eq_getElem hb
    rw [this]
    exact h.blk b _ (hle.blk b _ this)⟩
theorem Keeps.same {W W' : World} (h : Keeps W W') {p : MemPlace} (hp : p.block < W.heap.size) : W.sameAt W' p := by
  cases p with
  | cell b off =>
    show W'.cell? ⟨b, off, none⟩ = W.cell? ⟨b, off, none⟩
    simp only [World.cell?, h.blk b hp]
  | map b => exact h.blk b hp
theorem Keeps.kept {W W' : World} (h : Keeps W W') (may : MemPlace → Prop) : W.keptBut W' may := by
  refine ⟨h.os, h.out, fun i hi => ?_⟩
  rw [h.blk i hi]
  have hs := Array.getElem?_eq_getElem hi
  rw [hs]
  cases W.heap[i] <;> simp
section
variable {H : Type} {enc : TypeId × Value → H} {P : Program} {W W' : World}
theorem trodAll_keep (hl : laidOutB P = true) (hk : Keeps W W') {sp : Nat → Bool} : ∀ {ts : List TypeId} {vs : List Value} {ds : List (DataW H)} {ps : List MemPlace}, (∀ t ∈ ts, P.readableRec t = true ∧ t < P.types.size) → DataW.TrodAll enc P W 0 (fun _ => true) true ts vs ds ps → (∀ p ∈ ps, p.block < W.heap.size) → (∀ p ∈ ps, sp p.block = true) → DataW.TrodAll enc P W' 0 sp true ts vs ds ps
  | [], _, _, _, _, h, _, _ => by
    obtain ⟨rfl, rfl, rfl⟩ := trodAll_nil h
    rfl
  | t :: ts, _, _, _, hr, h, hlt, hsp => by
    obtain ⟨v, vs1, d, ds1, a, b, rfl, rfl, rfl, ⟨n, h1⟩, h2⟩ := trodAll_cons h
    have ht := hr t List.mem_cons_self
    exact ⟨a, b, ⟨n, DataW.trod_stays (kids_book hl ht.1) (fun ht' hu => book_sized ht.1 ht' hu) (by intro e; cases e) (t := t) ⟨ht.2, book_self t⟩ h1 (fun p hp => hk.same (hlt p (List.mem_append_left _ hp))) (fun p hp => hsp p (List.mem_append_left _ hp))⟩,
      trodAll_keep hl hk (fun t ht => hr t (List.mem_cons_of_mem _ ht)) h2 (fun p hp => hlt p (List.mem_append_right _ hp)) (fun p hp => hsp p (List.mem_append_right _ hp)), rfl⟩
/-- the law's answer is true, and nothing that was there has turned -/
theorem law_post {f : Func} {s : ChangeSpec} {apart fresh handsOn again : Bool} {args : Array Value} {ds gs : List (DataW H)} {before : List MemPlace} {tb : TypeId}
    (hW : DataW.Whole enc P f.params.toList s.vars apart W args.toList ds gs before) (hv : s.vars = []) (hfn : s.fn H ds = { results := [.lit (.bool true)], args := ds })
    (hres : f.resultTypes = #[tb]) (hb : P.underlying tb = some .bool) (hl : laidOutB P = true) (hr : ∀ t ∈ f.params.toList, P.readableRec t = true ∧ t < P.types.size) (hk : Keeps W W') :
    s.post enc P f apart fresh handsOn again W args (.bool true) W' := by
  have hW' := hW
  obtain ⟨p, q, hA, hV, rfl, hz, hn⟩ := hW
  rw [hv] at hV
  obtain ⟨rfl, rfl⟩ := trodVars_none hV
  simp only [List.append_nil] at hW' hz hn ⊢
  have hlt : ∀ x ∈ p, x.block < W.heap.size := fun x hx => hW'.lt x hx
  have hold : ∀ x ∈ p, (fun b => decide (b < W.heap.size)) x.block = true := fun x hx => by simpa using hlt x hx
  have hR : ∀ (b : Nat) (sp : Nat → Bool) (hd : Bool), DataW.TrodAll enc P W' b sp hd f.resultTypes.toList ((Value.bool true).resultList f.resultTypes.size) (s.fn H (ds ++ [])).results [] := fun b sp hd => by
    rw [List.append_nil, hfn, hres]
    exact trodAll_mk1 (shut_bool hb _)
  have hargs : ∀ sp : Nat → Bool, (∀ x ∈ p, sp x.block = true) → DataW.TrodAll enc P W' 0 sp true f.params.toList args.toList (s.fn H (ds ++ [])).args p := fun sp hsp => by
    rw [List.append_nil, hfn]
    exact trodAll_keep hl hk hr hA hlt hsp
  have hvars : ∀ sp : Nat → Bool, DataW.TrodVars enc P W' sp s.vars (s.fn H (ds ++ [])).vars [] := fun sp => by
    rw [List.append_nil, hfn, hv]
    rfl
  refine ⟨ds, [], p, [], p, [], hW', hR _ _ _, hargs _ hold, hvars _, World.keptBut_mono (fun x hx => ⟨hx, Or.inr (by simpa using hx)⟩) (hk.kept (· ∈ p)), fun _ => ?_⟩
  refine ⟨?_, _, _, ([] ++ p) ++ [], ⟨[] ++ p, [], trodAll_append (hargs _ (fun _ _ => rfl)) (hR _ _ _), hvars _, rfl, ?_, ?_⟩, ?_⟩
  · rw [hres]
    intro j t r h1 h2
    match j, h1, h2 with
    | 0, h1, h2 =>
      simp at h1
      subst h1
      have : r = .bool true := by simpa [Value.resultList] using h2.symm
      subst this
      exact okWide_bool_mk hb _
    | j + 1, h1, h2 => simp at h1
  · intro b off hp
    have hp' : MemPlace.cell b off ∈ p := by simpa using hp
    have h1 := hz b off hp'
    have h2 := hk.blk b (hlt _ hp')
    simp only [World.frozen?, h2] at h1 ⊢
    exact h1
  · intro ha
    simpa using hn ha
  · intro x hx _
    simpa using hx
/-- the contract of a law, as the statement asks for it -/
theorem law_calls {f : FuncId} {fn : Func} {s : ChangeSpec} {apart fresh handsOn again : Bool} {args : Array Value} {ds gs : List (DataW H)} {before : List MemPlace} {tb : TypeId}
    (hW : DataW.Whole enc P fn.params.toList s.vars apart W args.toList ds gs before) (hv : s.vars = []) (hfn : s.fn H ds = { results := [.lit (.bool true)], args := ds })
    (hres : fn.resultTypes = #[tb]) (hb : P.underlying tb = some .bool) (hl : laidOutB P = true) (hr : ∀ t ∈ fn.params.toList, P.readableRec t = true ∧ t < P.types.size)
    (h : Tr P f args.toList (memOf W) [] (fun v M' _ => v = .bool true ∧ (memOf W).le M')) :
    Calls P f args W fun e W' => ∃ v, e = .returned v ∧ s.post enc P fn apart fresh handsOn again W args v W' := by
  refine (h.2 W (hp_memOf W)).calls.mono fun e W' => ?_
  rintro ⟨v, rfl, M', L', hp, rfl, hle⟩
  exact ⟨_, rfl, law_post hW hv hfn hres hb hl hr (keeps_of hp hle)⟩
end

/-! ### what was handed over, as data -/
section
variable {H : Type}
/-- the cells cs read as a value of type t -/
def RD (enc : TypeId × Value → H) (P : Program) (W : World) (t : TypeId) (cs : List Value) : Prop := ∃ n x, DataW.trod enc P W 0 (fun _ => true) true n t cs = some x
def RDs (enc : TypeId × Value → H) (P : Program) (W : World) : List TypeId → List Value → Prop
  | [], cs => cs = []
  | t :: ts, cs => ∃ a b, cs = a ++ b ∧ RD enc P W t a ∧ RDs enc P W ts b
variable {enc : TypeId × Value → H} {P : Program} {W : World} {t : TypeId} {cs : List Value}
theorem RD.int (h : RD enc P W t cs) {k : IntKind} (hu : P.underlying t = some (.int k)) : ∃ n, cs = [.int k n] ∧ (Lit.int k n).wf = true := by
  obtain ⟨m, x, h⟩ := h
  obtain ⟨n, h1, _, h2⟩ := DataW.trod_int hu h
  exact ⟨n, h1, h2⟩
theorem RD.bool (h : RD enc P W t cs) (hu : P.underlying t = some .bool) : ∃ n, cs = [.bool n] := by
  obtain ⟨m, x, h⟩ := h
  obtain ⟨n, h1, _⟩ := DataW.trod_bool hu h
  exact ⟨n, h1⟩
theorem RD.string (h : RD enc P W t cs) (hu : P.underlying t = some .string) : ∃ s : ByteArray, cs = [.string s] ∧ s.size ≤ maxLen := by
  obtain ⟨m, x, h⟩ := h
  obtain ⟨n, h1, _, h2⟩ := DataW.trod_string hu h
  exact ⟨n, h1, h2⟩
def offsOk (P : Program) : Nat → List Field → Bool
  | _, [] => true
  | o, f :: fs => Nat.beq f.offset o && offsOk P (o + P.cellsOf f.type) fs
def sumOf (P : Program) (fs : List Field) : Nat := (fs.map fun f => P.cellsOf f.type).sum
theorem RD.struct (h : RD enc P W t cs) {fs : Array Field} (hu : P.underlying t = some (.struct fs)) (ho : (offsOk P 0 fs.toList && Nat.beq (sumOf P fs.toList) (P.cellsOf t)) = true) : RDs enc P W (fs.toList.map (·.type)) cs := by
  obtain ⟨m, x, h⟩ := h
  obtain ⟨xs, n, _, _, hl, hxl, hf⟩ := DataW.trod_struct hu h
  rw [Bool.and_eq_true] at ho
  have hsum := Nat.eq_of_beq_eq_true ho.2
  have key : ∀ (gs : List Field) (i o : Nat) (rest : List Value), fs.toList.drop i = gs → offsOk P o gs = true → cs.drop o = rest → rest.length = sumOf P gs → RDs enc P W (gs.map (·.type)) rest := by
    intro gs
    induction gs with
    | nil => intro i o rest _ _ _ hlen; exact List.length_eq_zero_iff.1 (by simpa [sumOf] using hlen)
    | cons f gs ih =>
      intro i o rest hdrop hoff hrest hlen
      simp only [offsOk, Bool.and_eq_true] at hoff
      have hfo := Nat.eq_of_beq_eq_true hoff.1
      have hget : fs[i]? = some f := by
        have := congrArg (fun l => l[0]?) hdrop
        simpa using this
      have hr := hf i f hget
      have hi : i < xs.length := by rw [hxl]; exact (Array.getElem?_eq_some_iff.1 hget).1
      rw [List.getElem?_eq_getElem hi, hfo, hrest] at hr
      refine ⟨rest.take (P.cellsOf f.type), rest.drop (P.cellsOf f.type), (List.take_append_drop _ _).symm, ⟨n, _, hr⟩, ?_⟩
      refine ih (i + 1) (o + P.cellsOf f.type) _ ?_ hoff.2 ?_ ?_
      · rw [← List.drop_drop, hdrop]; rfl
      · rw [← hrest, List.drop_drop]
      · simp only [sumOf, List.map_cons, List.sum_cons] at hlen
        rw [List.length_drop, hlen]
        simp [sumOf]
  exact key fs.toList 0 0 cs rfl ho.1 rfl (by rw [hl, hsum])
theorem RD.slice (h : RD enc P W t cs) {e : TypeId} {size : Nat} (hu : P.underlying t = some (.slice e)) (hC : P.cellsOf e = size) (hpos : 0 < size) :
    ∃ a len cap ls, cs = [.slice a len cap] ∧ len ≤ cap ∧ cap ≤ maxLen ∧ SlM (memOf W) size a len ls ∧ ∀ c ∈ ls, RD enc P W e c := by
  obtain ⟨m, x, h⟩ := h
  rcases Go.Deep.open_slice hu h with ⟨rfl, _⟩ | ⟨a, len, cap, m', n, D, Pl, rfl, _, hlc, hmx, hm', _, hel⟩
  · exact ⟨none, 0, 0, [], rfl, Nat.le_refl _, Nat.zero_le _, SlM.nil _ _ _, fun c hc => by cases hc⟩
  · simp only [if_true] at hm'
    have hch : ∀ i, ∃ c, i < len → (W.cells? 0 (a.add (i * size)) size = some c ∧ RD enc P W e c) := fun i => by
      by_cases hi : i < len
      · obtain ⟨c, h1, h2⟩ := hel i (by omega)
        rw [hC] at h1
        exact ⟨c, fun _ => ⟨h1, n, _, h2⟩⟩
      · exact ⟨[], fun h => absurd h hi⟩
    obtain ⟨F, hF⟩ := Classical.axiomOfChoice hch
    refine ⟨some a, len, cap, (List.range len).map F, rfl, hlc, hmx, ⟨by simp, fun l hl => ?_, ?_⟩, fun c hc => ?_⟩
    · obtain ⟨i, hi, rfl⟩ := List.mem_map.1 hl
      exact (World.cells?_some (hF i (List.mem_range.1 hi)).1).2.1
    · by_cases h0 : len = 0
      · left; simp [h0]
      · right
        have hspot : a.spot = none := by
          have h1 := (World.cells?_some (hF 0 (by omega)).1).2.2 0 hpos
          have hlen0 := (World.cells?_some (hF 0 (by omega)).1).2.1
          simp only [Nat.zero_mul] at h1
          have hs : (F 0)[0]? = some ((F 0)[0]'(by omega)) := List.getElem?_eq_getElem (by omega)
          rw [hs] at h1
          have ha0 : (a.add 0).add 0 = a := by simp [Addr.add]
          rw [ha0] at h1
          unfold World.cell? at h1
          split at h1
          · split at h1
            · cases h1
            · rename_i hsp; cases h2 : a.spot with
              | none => rfl
              | some v => simp [h2] at hsp
          · cases h1
        obtain ⟨ab, ao, asp⟩ := a
        simp only at hspot
        subst hspot
        refine ⟨ab, ao, rfl, fun i c hc => ?_⟩
        have hi : i < len := by
          have := (List.getElem?_eq_some_iff.1 hc).1
          simpa using this
        have hci : c = F i := by
          have : ((List.range len).map F)[i]? = some (F i) := by simp [hi]
          rw [this] at hc
          exact (Option.some.inj hc).symm
        subst hci
        obtain ⟨_, hlen, hcell⟩ := World.cells?_some (hF i hi).1
        have hbase : ∀ j, j < size → W.cell? ⟨ab, ao + i * size + j, none⟩ = (F i)[j]? := fun j hj => by
          have := hcell j hj
          rw [add_none, add_none] at this
          exact this
        have hb : ∃ cells ty fz, W.heap[ab]? = some (.cells cells ty fz) := by
          have h1 := hbase 0 hpos
          rw [List.getElem?_eq_getElem (by omega)] at h1
          unfold World.cell? at h1
          split at h1
          · rename_i c1 t1 f1 he; exact ⟨c1, t1, f1, he⟩
          · cases h1
        obtain ⟨cells, ty, fz, hb⟩ := hb
        refine ⟨cells, ty, fz, .inr hb, fun j v hv => ?_⟩
        have hj : j < size := by have := (List.getElem?_eq_some_iff.1 hv).1; omega
        have := hbase j hj
        rw [hv] at this
        simpa [World.cell?, hb] using this
    · obtain ⟨i, hi, rfl⟩ := List.mem_map.1 hc
      exact (hF i (List.mem_range.1 hi)).2
theorem list_of {α : Type} {f : α → List Value} {Q : α → Prop} : ∀ {ls : List (List Value)}, (∀ c ∈ ls, ∃ x, c = f x ∧ Q x) → ∃ xs : List α, ls = xs.map f ∧ ∀ x ∈ xs, Q x
  | [], _ => ⟨[], rfl, fun x hx => by cases hx⟩
  | c :: ls, h => by
    obtain ⟨x, h1, h2⟩ := h c List.mem_cons_self
    obtain ⟨xs, h3, h4⟩ := list_of fun c hc => h c (List.mem_cons_of_mem _ hc)
    exact ⟨x :: xs, by simp [h1, h3], fun y hy => by
      rcases List.mem_cons.1 hy with rfl | hy
      · exact h2
      · exact h4 y hy⟩
end
end Go.Chi
