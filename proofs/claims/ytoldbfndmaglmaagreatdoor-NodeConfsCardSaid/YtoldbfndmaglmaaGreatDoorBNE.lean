import Derived.Test.YtoldbfndmaglmaaGreatDoorBNA
import Derived.Test.YtoldbfndmaglmaaGreatDoorBND
set_option linter.all false
namespace Go.Proofs.YtoldbfndmaglmaaGreatDoor
open Go.Chi Go.Ev
variable {M : Mem}
theorem ixB_find (c : Nat) : ∀ (l : List UInt8) (q : Nat → Bool) (i : Nat), (∀ j (h : j < l.length), q j = Nat.beq (l[j]).toNat c) →
    (match (List.range l.length).find? q with | some j => (((i + j : Nat)) : Int) | none => -1) = ixB c l i
  | [], q, i, _ => rfl
  | b :: l, q, i, h => by
    have h0 := h 0 (by simp)
    simp only [List.getElem_cons_zero] at h0
    rw [List.length_cons, List.range_succ_eq_map, List.find?_cons, h0]
    unfold ixB
    cases hb : Nat.beq b.toNat c with
    | true => simp
    | false =>
      simp only [List.find?_map]
      have := ixB_find c l (fun j => q (j + 1)) (i + 1) fun j hj => by
        have := h (j + 1) (by simpa using hj)
        simpa using this
      rw [← this]
      have e : (q ∘ Nat.succ) = fun j => q (j + 1) := rfl
      rw [e]
      cases (List.range l.length).find? (fun j => q (j + 1)) with
      | none => rfl
      | some j => exact congrArg (fun n : Nat => (n : Int)) (show i + (j + 1) = i + 1 + j by omega)
theorem firstIdx_ixB (s : ByteArray) {c : Nat} (hc : c < 256) : firstIdx s (c : Int).toNat.toUInt8 = ixB c s.data.toList 0 := by
  have hsz : s.data.toList.length = s.size := by simp
  have := ixB_find c s.data.toList (fun i => s[i]! == (c : Int).toNat.toUInt8) 0 fun j hj => by
    have hj' : j < s.size := by omega
    have e1 : s[j]! = s.data.toList[j] := by
      rw [getElem!_pos s j hj']; rfl
    rw [e1, Int.toNat_natCast, Bool.eq_iff_iff, beq_iff_eq, ← UInt8.toNat_inj]
    simp only [Nat.toUInt8, UInt8.toNat_ofNat']
    rw [Nat.mod_eq_of_lt (by omega)]
    exact ⟨fun h => by rw [h]; exact Nat.beq_refl c, fun h => Nat.eq_of_beq_eq_true h⟩
  rw [← this, hsz]
  unfold firstIdx
  cases (List.range s.size).find? (fun i => s[i]! == (c : Int).toNat.toUInt8) with
  | none => rfl
  | some j => simp
set_option maxRecDepth 100000 in
theorem ext_all : (List.range Tryz.prog.funcs.size).all (fun f => match extE Tryz.prog f with | 1 => Nat.beq f 241 | 2 => Nat.beq f 252 | _ => true) = true := by decide +kernel
theorem ext_lt {f n : Nat} (h : extE Tryz.prog f = n + 1) : f < Tryz.prog.funcs.size := by
  apply Classical.byContradiction
  intro hn
  have : Tryz.prog.funcs[f]? = none := Array.getElem?_eq_none (by omega)
  simp [extE, this] at h
theorem extOk : ExtOk Tryz.prog := by
  constructor
  · intro f v w h
    have h1 := List.all_eq_true.1 ext_all f (List.mem_range.2 (ext_lt h))
    rw [h] at h1
    have h1 : f = 241 := Nat.eq_of_beq_eq_true h1
    subst h1
    rw [run_callFunc_extern (P := Tryz.prog) (e := Extern.AbiNoEscape.same) Tryz.func241 (by kernel_rfl) (by kernel_rfl) (by kernel_rfl) (by kernel_rfl)]
    rfl
  · intro f s c w h hc
    have h1 := List.all_eq_true.1 ext_all f (List.mem_range.2 (ext_lt h))
    rw [h] at h1
    have h1 : f = 252 := Nat.eq_of_beq_eq_true h1
    subst h1
    have hx := run_callFunc_extern (P := Tryz.prog) (e := Extern.BytealgIndexByte.indexByte) Tryz.func252 (by kernel_rfl) (by kernel_rfl) (by kernel_rfl) (by kernel_rfl) #[.string s, .int .u8 (.ofNat c)] w
    have := run_indexByte_string (P := Tryz.prog) s (c : Int) w
    rw [firstIdx_ixB s hc] at this
    have this : (Extern.BytealgIndexByte.indexByte #[.string s, .int .u8 (.ofNat c)]).run Tryz.prog w = .ok (.int .i64 (ixB c s.data.toList 0)) w := this
    rw [this] at hx
    simpa using hx
def rn0 (G : Nat) : Rn G := { f := id, hg := fun _ _ => rfl, z := fun _ => 0, t := fun _ => [], q := q0 1 1 0 0 0 0, hq := q0_ok ⟨by omega, by omega⟩ ⟨by omega, by omega⟩ (by omega), lt := fun _ => (#[], 0) }
theorem sc_nil {G n : Nat} : ScH G n (.nil : Heap) := ⟨(fun k o e => by rw [Bt.get_nil] at e; cases e), (fun k o e => by rw [Bt.get_nil] at e; cases e)⟩
theorem rel_nil {G : Nat} {L : HL} {r : Rn G} {w : World} (h : Hp M L w) : Rel M L r .nil w :=
  ⟨h, (fun k cs e s hk => by rw [Bt.get_nil] at hk; cases hk), (fun k cs e s k2 hk => by rw [Bt.get_nil] at hk; cases hk), (fun k st pe m tm ps asn bd D hk => by rw [Bt.get_nil] at hk; cases hk)⟩
theorem sc_args {G n : Nat} : ScL G n [] := fun v hv => by cases hv
theorem alive_ok {N : HL} (hN : ∀ b o, M.blk b = some o ↔ (b, o) ∈ N) (hd : (N.map Prod.fst).Nodup) (hGT : GTok 3 M gt) (L : HL) : TrQ Tryz.prog 10 [] M L (.bool true) := by
  obtain ⟨H, nx, he⟩ := isT_ok alive_ev
  have hS := evN_ok (M := M) tok hGT extOk mixed (known_ok hN hd) 100000
  obtain ⟨_, h1, _⟩ := hS.call _ _ _ _ _ _ _ he sc_args sc_nil (Nat.le_refl 3)
  refine ⟨fun w => h1 _ w, fun w hw => ?_⟩
  have h2 := hS.call.fn he sc_args sc_nil (Nat.le_refl 3) (r := rn0 3) (rel_nil hw)
  exact h2.mono fun u w' ⟨r', _, hr, e⟩ => ⟨M, L, hr.hp.dropAll, by rw [e]; simp [ren], rfl, rfl⟩
end Go.Proofs.YtoldbfndmaglmaaGreatDoor
namespace Go.Proofs.YtoldbfndmaglmaaGreatDoor
open Go.Chi Go.Ev
theorem btw_ok (M : Mem) (L : HL) (a b c : Int) : TrQ Tryz.prog 29 [.int .i64 a, .int .i64 b, .int .i64 c] M L (.bool (decide (a ≥ b) && decide (a ≤ c))) := by
  refine Tr.intro 15 Tryz.func29 rfl rfl Tryz.call29 rfl ?_; intro C hC hro
  repeat (first | refine zz ?_ | refine zx fun _ => ?_)
  refine run_ret hC (rs := [.tmp 6]) rfl (resT rfl resN) (fun _ h => h) ⟨?_, rfl, rfl⟩
  cases h : decide (a ≥ b) <;> simp [h] <;> rfl
def confC (x y z u : Int) : List Value := [.int .i64 x, .int .i64 y, .int .i64 z, .int .i64 u]
def mayP (x y z u : Int) : Prop := 1 ≤ y ∧ y ≤ 8 ∧ 0 ≤ x ∧ x ≤ y - 1 ∧ 1 ≤ z ∧ z ≤ 100 ∧ 1 ≤ u ∧ u ≤ 10000
instance (x y z u : Int) : Decidable (mayP x y z u) := by unfold mayP; infer_instance
theorem may_ok (M : Mem) (L : HL) (x y z u : Int) : TrQ Tryz.prog 11 [.agg ⟨confC x y z u⟩] M L (.bool (decide (mayP x y z u))) := by
  refine Tr.intro 31 Tryz.func11 rfl rfl Tryz.call11 rfl ?_; intro C hC hro
  repeat (first | refine zz ?_ | refine zx fun _ => ?_)
  refine runL_q (st_callV rfl rfl (fun _ => btw_ok _ _ _ _ _)) rfl rfl rfl ?_
  repeat (first | refine zz ?_ | refine zx fun _ => ?_)
  refine runL_g rfl rfl (st_callV rfl rfl (fun _ => btw_ok _ _ _ _ _)) rfl rfl rfl rfl rfl ?_
  repeat (first | refine zz ?_ | refine zx fun _ => ?_)
  refine runL_g rfl rfl (st_callV rfl rfl (fun _ => btw_ok _ _ _ _ _)) rfl rfl rfl rfl rfl ?_
  repeat (first | refine zz ?_ | refine zx fun _ => ?_)
  refine runL_g rfl rfl (st_callV rfl rfl (fun _ => btw_ok _ _ _ _ _)) rfl rfl rfl rfl rfl ?_
  repeat (first | refine zz ?_ | refine zx fun _ => ?_)
  refine run_ret hC (rs := [.tmp 2]) rfl (resT rfl resN) (fun _ h => h.drop) ⟨?_, rfl, rfl⟩
  refine congrArg Value.bool ?_
  by_cases hy : 1 ≤ y ∧ y ≤ 8
  · rw [show IntKind.i64.wrap (y - 1) = y - 1 from IntWalk.i64_in _ (by omega)]
    simp only [← Bool.decide_and]
    exact decide_eq_decide.2 (by unfold mayP; omega)
  · rw [show (decide (y ≥ 1) && decide (y ≤ 8)) = false by rw [← Bool.decide_and]; exact decide_eq_false (by omega)]
    simp only [Bool.false_and]
    exact (decide_eq_false (by unfold mayP; omega)).symm
theorem refMay_ok (M : Mem) (L : HL) (x y z u : Int) : TrQ Tryz.prog 7 [.agg ⟨confC x y z u⟩] M L (.bool (decide (mayP x y z u))) := by
  refine Tr.intro 47 Tryz.func7 rfl rfl Tryz.call7 rfl ?_; intro C hC hro
  repeat (first | refine zz ?_ | refine zx fun _ => ?_)
  refine run_ret hC (rs := [.tmp 2]) rfl (resT rfl resN) (fun _ h => h.drop) ⟨?_, rfl, rfl⟩
  refine congrArg Value.bool ?_
  simp only [← Bool.decide_and]
  exact decide_eq_decide.2 (by unfold mayP; omega)
end Go.Proofs.YtoldbfndmaglmaaGreatDoor
namespace Go.Proofs.YtoldbfndmaglmaaGreatDoor
open Go.Chi Go.Ev
variable {G : Nat} {M : Mem}
noncomputable def knownM (args : List Value) (H : Heap) (nx : Nat) : Option (Value × Heap × Nat) :=
  match args with
  | [.agg ⟨[.int .i64 (.ofNat x), .int .i64 (.ofNat y), .float _ i, .float _ j]⟩] => match Nat.blt x y && Nat.ble y 8 && Nat.beq i 0 && Nat.beq j 1 with
    | true => some (.bool true, H, nx)
    | false => none
  | [.agg ⟨[.float _ i, .float _ j, .float _ k, .float _ l]⟩] => match Nat.beq i 2 && Nat.beq j 3 && Nat.beq k 4 && Nat.beq l 5 with
    | true => some (.bool false, H, nx)
    | false => none
  | _ => none
noncomputable def knownA (args : List Value) (H : Heap) (nx : Nat) : Option (Value × Heap × Nat) :=
  match args with
  | [] => some (.bool true, H, nx)
  | _ => none
noncomputable def known2 (f : FuncId) (args : List Value) (H : Heap) (nx : Nat) : Option (Value × Heap × Nat) :=
  match Nat.beq f 11, Nat.beq f 7, Nat.beq f 10 with
  | true, _, _ => knownM args H nx
  | _, true, _ => knownM args H nx
  | _, _, true => knownA args H nx
  | _, _, _ => known f args H nx
theorem known_tr {f : FuncId} {args : List Value} {H H' : Heap} {nx nx' : Nat} {v : Value} (hv : clo v = true) (hH : H' = H) (hn : nx' = nx) (hc : ∀ vs w, (callFunc f vs).run Tryz.prog w = .ok (.enter f vs) w)
    (h : ∀ (r : Rn G) L, TrQ Tryz.prog f (args.map (ren r)) M L v) (h2 : ScH G nx H) :
    (Sc G nx' v ∧ ScH G nx' H' ∧ nx ≤ nx') ∧ (∀ vs w, (callFunc f vs).run Tryz.prog w = .ok (.enter f vs) w) ∧
    ∀ (L : HL) (r : Rn G) w, Rel M L r H w → Chi.Fn Tryz.prog f ⟨args.map (ren r)⟩ w (fun u w' => ∃ r' : Rn G, agree nx r r' ∧ Rel M L r' H' w' ∧ u = ren r' v) := by
  subst hH hn
  have hs : cloV v = true := by
    cases v <;> first | exact hv | (simp [clo] at hv)
  refine ⟨⟨Sc.clo hs, h2, Nat.le_refl _⟩, hc, fun L r w hr => ?_⟩
  exact ((h r (lay r _ ++ L)).2 w hr.hp).mono fun u w' ⟨M', L', q1, q2, q3, q4⟩ => by
    subst q3 q4
    exact ⟨r, .refl _ _, rel_of hr.ok q1, by rw [q2]; exact (cloV_ren hs).symm⟩
theorem knownM_ok {f : FuncId} {args : List Value} {H H' : Heap} {nx nx' : Nat} {v : Value} (h : knownM args H nx = some (v, H', nx'))
    (hf : ∀ (L : HL) (x y z u : Int), TrQ Tryz.prog f [.agg ⟨confC x y z u⟩] M L (.bool (decide (mayP x y z u)))) :
    clo v = true ∧ H' = H ∧ nx' = nx ∧ ∀ (r : Rn G) L, TrQ Tryz.prog f (args.map (ren r)) M L v := by
  unfold knownM at h
  split at h
  · rename_i x y k1 i k2 j
    split at h
    · rename_i hc
      cases h
      simp only [Bool.and_eq_true] at hc
      have c1 := Nat.blt_eq.mp hc.1.1.1
      have c2 := Nat.le_of_ble_eq_true hc.1.1.2
      have c3 := Nat.eq_of_beq_eq_true hc.1.2
      have c4 := Nat.eq_of_beq_eq_true hc.2
      subst c3 c4
      refine ⟨rfl, rfl, rfl, fun r L => ?_⟩
      obtain ⟨z, z1, z2, z3⟩ := r.hq.a
      obtain ⟨u, u1, u2, u3⟩ := r.hq.b
      have := hf L x y z u
      rw [decide_eq_true (by unfold mayP; omega)] at this
      simpa [ren, renA_eq, z1, u1, confC] using this
    · cases h
  · rename_i k1 i k2 j k3 k k4 l
    split at h
    · rename_i hc
      cases h
      simp only [Bool.and_eq_true] at hc
      have c1 := Nat.eq_of_beq_eq_true hc.1.1.1
      have c2 := Nat.eq_of_beq_eq_true hc.1.1.2
      have c3 := Nat.eq_of_beq_eq_true hc.1.2
      have c4 := Nat.eq_of_beq_eq_true hc.2
      subst c1 c2 c3 c4
      refine ⟨rfl, rfl, rfl, fun r L => ?_⟩
      obtain ⟨x, y, z, u, x1, y1, z1, u1, hn⟩ := r.hq.c
      have := hf L x y z u
      rw [decide_eq_false (by unfold mayP; exact hn)] at this
      simpa [ren, renA_eq, x1, y1, z1, u1, confC] using this
    · cases h
  · cases h
theorem known2_ok {N : HL} (hN : ∀ b o, M.blk b = some o ↔ (b, o) ∈ N) (hd : (N.map Prod.fst).Nodup) (hGT : GTok 3 M gt) : KnownS Tryz.prog G M known2 := by
  intro f args H nx v H' nx' h h1 h2 h3
  unfold known2 at h
  split at h
  · rename_i hf
    have hf := Nat.eq_of_beq_eq_true hf
    subst hf
    obtain ⟨a, b, c, d⟩ := knownM_ok (G := G) (M := M) h (fun L x y z u => may_ok M L x y z u)
    exact known_tr a b c Tryz.call11 d h2
  · rename_i hf _
    have hf := Nat.eq_of_beq_eq_true hf
    subst hf
    obtain ⟨a, b, c, d⟩ := knownM_ok (G := G) (M := M) h (fun L x y z u => refMay_ok M L x y z u)
    exact known_tr a b c Tryz.call7 d h2
  · rename_i hf _ _
    have hf := Nat.eq_of_beq_eq_true hf
    subst hf
    unfold knownA at h
    split at h
    · cases h
      exact known_tr rfl rfl rfl Tryz.call10 (fun _ L => alive_ok hN hd hGT L) h2
    · cases h
  · exact known_ok hN hd f args H nx v H' nx' h h1 h2 h3
noncomputable def evM : Slf := evN Tryz.prog tt gt 3 known2 100000
noncomputable def okConf (x y : Nat) : Bool := isT (evM.call 3 [.agg ⟨[.int .i64 (.ofNat x), .int .i64 (.ofNat y), .float .f64 0, .float .f64 1]⟩] .nil 3)
end Go.Proofs.YtoldbfndmaglmaaGreatDoor
