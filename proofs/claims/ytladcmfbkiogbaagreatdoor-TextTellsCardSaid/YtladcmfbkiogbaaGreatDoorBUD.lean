import Derived.Test.YtladcmfbkiogbaaGreatDoorBUB
import Derived.Test.YtladcmfbkiogbaaGreatDoorBUC
import Derived.Test.YtladcmfbkiogbaaGreatDoorBUA
import Derived.Lib.AtoiTie
import Derived.KernelRfl
import Derived.Test.YtladcmfbkiogbaaGreatDoorRows
import Derived.ChangeMaps5
import Derived.Lib.LaidTab
import Derived.LaidLaws
set_option linter.all false
namespace Go.Proofs.YtladcmfbkiogbaaGreatDoor
open Go.Chi Go.Lib
set_option maxRecDepth 10000
def vK (bv : Nat) (nv : Value) (l : List UInt8) (R : HL) (M : Mem) (o : Option ByteArray) (en : Ending) (M' : Mem) (L' : HL) : Prop :=
  M.le M' ∧ match o with
    | some t => en = .returned (.tuple ⟨[]⟩) ∧ VoAt bv nv (l ++ t.data.toList) R L'
    | none => en = .panicked panT ∧ ∃ N, L'.Perm (N ++ R)
theorem vR {bv : Nat} {nv : Value} {l : List UInt8} {C : Cx} {n : Nat} {ops : Array Oper} {rest : List Oper} {k : List Item} {ds : List Deferred} {σ : Env} {δ : Den} {M : Mem} {L R : HL} {o : Option ByteArray} {g : FuncId} {vs : List Value} {d : Nat} {ty : TypeId} {pos : String} {aft : Array Edge} {args : Array Operand} {tys : Array TypeId}
    (ht : TrE Tryz.prog g vs M L (vK bv nv l R M o)) (h : ∀ t M' L', o = some t → M.le M' → VoAt bv nv (l ++ t.data.toList) R L' → RunL Tryz.prog C n ops rest k ds ((d, .tuple ⟨[]⟩) :: σ) δ M' L') (hp : o = none → ∀ M' L' N, M.le M' → L'.Perm (N ++ R) → RunX Tryz.prog C n (.panicking panT) ds σ M' L') (ha : evs σ δ [] args.toList = some vs := by exact rfl) (hd : Nat.blt d n = true := by exact rfl) (hn : lkd δ d = none := by exact rfl) (hu : unNamed δ d = true := by exact rfl) :
    RunL Tryz.prog C n ops (⟨some d, .call ⟨.value (.func g), args, tys⟩, ty, pos, aft, none⟩ :: rest) k ds σ δ M L := by
  refine ec ht ?_ ?_ ha hd hn hu
  · rintro v M' L' ⟨hM, hv⟩
    cases o with
    | none => cases hv.1
    | some t => obtain ⟨hv, hB⟩ := hv; cases hv; exact h t M' L' rfl hM hB
  · rintro ch M' L' ⟨hM, hv⟩
    cases o with
    | none => obtain ⟨hv, N, hN⟩ := hv; cases hv; exact hp rfl M' L' N hM hN
    | some t => cases hv.1
theorem cat1 (x : ByteArray) : (cat [x]).data.toList = x.data.toList := by simp [cat]
theorem cat1s (x : ByteArray) : (cat [x]).size = x.size := by simp only [cat, app_size]; rfl
theorem say1_ok (M : Mem) (L R : HL) (bv ba : Nat) (nv : Value) (l : List UInt8) (x : ByteArray) (h : VoAt bv nv l R L) (hz : l.length + x.size < 1099511627776) :
    Tr Tryz.prog 34 [pt bv, .slice (some ⟨ba, 0, none⟩) 1 1] M ((ba, .cells ⟨[.string x]⟩ 9 (0, 0)) :: L) (fun _ M' L' => M.le M' ∧ VoAt bv nv (l ++ x.data.toList) R L') := by
  have := say_ok M L R bv ba nv l [x] _ 1 rfl rfl (by decide) h (by rw [cat1s]; exact hz)
  rwa [cat1] at this
theorem panN {L N R : HL} {q : Nat × Obj} (h : L.Perm (N ++ q :: R)) : L.Perm ((N ++ [q]) ++ R) := by rwa [List.append_assoc]
def orgV (names : List ByteArray) (k : Nat) : Option ByteArray := names[k]?
theorem vorg_ok (M : Mem) (L R : HL) (bv : Nat) (l : List UInt8) (S : SStr) (hS : StOk M S) (k : Nat) (h : VoAt bv S.v l R L) (hz : ∀ x ∈ S.xs, l.length + x.size < 1099511627776) :
    TrE Tryz.prog 33 [pt bv, iv k] M L (vK bv S.v l R M (orgV S.xs k)) := by
  obtain ⟨p, v, hm⟩ := h.mem
  have hl := hS.len
  refine TrE.intro 22 Tryz.func33 rfl rfl Tryz.call33 rfl ?_; intro C hC hro
  repeat (first | refine zc ?_ | refine vq ?_)
  refine umR (b := decide ((k : Int) < (S.len : Int))) (fun h1 => ?_) (fun h1 => ?_)
  rotate_left
  · have hlt : ¬ k < S.len := by have := of_decide_eq_false h1; omega
    obtain ⟨p', v', N, _, hL, _⟩ := h
    exact runX_pan hC (fun _ h => h) ⟨Mem.le_refl _, by rw [orgV, List.getElem?_eq_none (by omega)]; exact ⟨rfl, _, panN hL⟩⟩
  have hlt : k < S.len := by have := of_decide_eq_true h1; omega
  obtain ⟨b, off, x, ha, hx, hc⟩ := SStr.at_ hS.1 hlt
  have hv : S.v = .slice (some ⟨b, off, none⟩) S.len S.cap := by rw [← ha]; rfl
  iterate 6 refine yy ?_
  refine vq ?_ (hst := qt_ld tok rfl hm (congrArg some hv))
  repeat (first | refine yy ?_ | refine yx fun _ => ?_)
  refine oc (say1_ok _ _ R bv _ _ l x h (hz x (List.mem_of_getElem? hx))) ?_
  rintro _ M1 L1 ⟨hM1, hB1⟩
  repeat (first | refine yy ?_ | refine yx fun _ => ?_)
  refine run_endX hro ?_
  exact runX_ret hC (rs := []) rfl (vs := []) trivial (fun _ h => h) ⟨hM1, by rw [orgV, hx]; exact ⟨rfl, hB1⟩⟩
theorem dec_le : ∀ (k u : Nat), u < 10 ^ (k + 1) → (decDigits u).length ≤ k + 1
  | 0, u, h => by
    rw [decDigits, dif_pos (by omega)]; exact Nat.le_refl _
  | k + 1, u, h => by
    rw [decDigits]
    split
    · simp
    · have := dec_le k (u / 10) (by rw [Nat.pow_succ] at h; omega)
      rw [List.length_append, List.length_singleton]; omega
def dgB (n : Int) : ByteArray := bs (decDigits n.toNat)
theorem dgB_sz {n : Int} (h : n ≤ 9223372036854775807) : (dgB n).size ≤ 19 := by
  rw [← ba_len]
  exact dec_le 18 _ (by omega)
theorem vnum_ok (M : Mem) (L R : HL) (hG : G38 M) (bv : Nat) (nv : Value) (l : List UInt8) (n : Int) (h0 : 0 ≤ n) (h1 : n ≤ 9223372036854775807) (h : VoAt bv nv l R L) (hz : l.length + 19 < 1099511627776) :
    Tr Tryz.prog 112 [pt bv, .int .i64 n] M L (fun _ M' L' => M.le M' ∧ VoAt bv nv (l ++ (dgB n).data.toList) R L') := by
  have hd := dgB_sz h1
  have hi := itoa_ok M L n.toNat (by omega) hG
  rw [Int.toNat_of_nonneg h0] at hi
  refine Tr.intro 9 Tryz.func112 rfl rfl Tryz.call112 rfl ?_; intro C hC hro
  repeat (first | refine zc ?_ | refine vq ?_)
  refine qc hi ?_
  repeat (first | refine yy ?_ | refine yx fun _ => ?_)
  refine oc (say1_ok _ _ R bv _ _ l (dgB n) h (by omega)) ?_
  rintro _ M1 L1 ⟨hM1, hB1⟩
  repeat (first | refine yy ?_ | refine yx fun _ => ?_)
  exact run_end hC rfl (vs := []) trivial (fun _ h => h) ⟨hM1, hB1⟩
def termV (t : ByteArray) : Option ByteArray := if (lineE t).2 = 0 then some (lineE t).1 else none
theorem termV_sz {t x : ByteArray} (ht : t.size < 1000000) (h : termV t = some x) : x.size ≤ 1376256 := by
  unfold termV at h
  split at h
  · cases h
    unfold lineE
    split
    · rename_i h0
      obtain ⟨hT, hz2⟩ := (mayB_iff (by omega)).1 h0
      have := line_size 16 (Nat.le_refl _) t hT (by omega)
      show (lineB 16 t).size ≤ _; omega
    · exact Nat.zero_le _
  · cases h
theorem vterm_ok (M : Mem) (L R : HL) (bv : Nat) (nv : Value) (l : List UInt8) (t : ByteArray) (ht : t.size < 1000000) (h : VoAt bv nv l R L) (hz : l.length + 1376256 < 1099511627776) :
    TrE Tryz.prog 111 [pt bv, .string t] M L (vK bv nv l R M (termV t)) := by
  refine TrE.intro 18 Tryz.func111 rfl rfl Tryz.call111 rfl ?_; intro C hC hro
  repeat (first | refine zc ?_ | refine vq ?_)
  refine qc (sline_ok _ _ t ht) ?_
  repeat (first | refine zc ?_ | refine vq ?_)
  refine umR (b := (lineE t).2 == 0) (fun h1 => ?_) (fun h1 => ?_)
  rotate_left
  · obtain ⟨p', v', N, _, hL, _⟩ := h
    exact runX_pan hC (fun _ h => h) ⟨Mem.le_refl _, by rw [termV, if_neg (by simpa using h1)]; exact ⟨rfl, _, panN hL⟩⟩
  have ht1 : termV t = some (lineE t).1 := by rw [termV, if_pos (by simpa using h1)]
  have hts := termV_sz ht ht1
  repeat (first | refine yy ?_ | refine yx fun _ => ?_)
  refine oc (say1_ok _ _ R bv _ _ l (lineE t).1 h (by omega)) ?_
  rintro _ M1 L1 ⟨hM1, hB1⟩
  repeat (first | refine yy ?_ | refine yx fun _ => ?_)
  refine run_endX hro ?_
  exact runX_ret hC (rs := []) rfl (vs := []) trivial (fun _ h => h) ⟨hM1, by rw [ht1]; exact ⟨rfl, hB1⟩⟩
def txnV (names : List ByteArray) (t : Tx) : Option ByteArray := (orgV names t.coord.toNat).map fun o => o ++ (((slB ++ dgB t.epoch) ++ slB) ++ dgB t.seq)
set_option maxHeartbeats 4000000 in
theorem vtxn_ok (M : Mem) (L R : HL) (hG : G38 M) (bv : Nat) (l : List UInt8) (S : SStr) (hS : StOk M S) (t : Tx) (h0 : 0 ≤ t.coord) (h1 : 0 ≤ t.epoch ∧ t.epoch ≤ 9223372036854775807) (h2 : 0 ≤ t.seq ∧ t.seq ≤ 9223372036854775807) (h : VoAt bv S.v l R L) (hz : ∀ x ∈ S.xs, l.length + x.size + 100 < 1099511627776) :
    TrE Tryz.prog 43 [pt bv, .agg ⟨txC t⟩] M L (vK bv S.v l R M (txnV S.xs t)) := by
  have hd1 := dgB_sz h1.2
  have hd2 := dgB_sz h2.2
  refine TrE.intro 17 Tryz.func43 rfl rfl Tryz.call43 rfl ?_; intro C hC hro
  repeat (first | refine yy ?_ | refine yx fun _ => ?_)
  rename_i b3
  have hB := h.cons (b3, .cells ⟨txC t⟩ 25 (0, 0))
  refine runL_as 6 (iv t.coord.toNat) rfl (by congr 1; exact (Int.toNat_of_nonneg h0).symm) ?_
  refine vR (vorg_ok _ _ _ bv l S hS t.coord.toNat hB (fun x hx => by have := hz x hx; omega)) (fun o M1 L1 ho hM1 hB1 => ?_) (fun ho M1 L1 N hM1 hN => ?_)
  rotate_left
  · exact runX_pan hC (fun _ h => h) ⟨hM1, by rw [txnV, ho]; exact ⟨rfl, _, panN hN⟩⟩
  have hzo := hz o (List.mem_of_getElem? ho)
  have hG1 := hG.le hM1
  have hm := hB1.memR List.mem_cons_self
  have hi1 := itoa_ok M1 L1 t.epoch.toNat (by omega) hG1
  rw [Int.toNat_of_nonneg h1.1] at hi1
  have hi2 := itoa_ok M1 L1 t.seq.toNat (by omega) hG1
  rw [Int.toNat_of_nonneg h2.1] at hi2
  repeat (first | refine yy ?_ | refine dd ?_ | refine yd ?_ | refine yx fun _ => ?_)
  refine pc hi1 ?_
  repeat (first | refine yy ?_ | refine dd ?_ | refine yd ?_ | refine yx fun _ => ?_)
  refine pc hi2 ?_
  repeat (first | refine yy ?_ | refine dd ?_ | refine yd ?_ | refine yx fun _ => ?_)
  have hcs : (cat [slB, dgB t.epoch, slB, dgB t.seq]).data.toList = ((((slB ++ dgB t.epoch) ++ slB) ++ dgB t.seq)).data.toList := by simp [cat]
  have hcz : (cat [slB, dgB t.epoch, slB, dgB t.seq]).size ≤ 40 := by
    have h1 : slB.size = 1 := rfl
    simp only [cat, app_size]; rw [h1]; show _ + (_ + (_ + (_ + 0))) ≤ _; omega
  refine pec (say_ok _ _ _ bv _ _ _ [slB, dgB t.epoch, slB, dgB t.seq] _ 4 rfl rfl (by decide) hB1 (by rw [List.length_append, ba_len]; omega)) ?_
  rintro _ M2 L2 ⟨hM2, hB2⟩
  repeat (first | refine yy ?_ | refine dd ?_ | refine yd ?_ | refine yx fun _ => ?_)
  obtain ⟨L3, hL3, hB3⟩ := hB2.drop
  refine run_endX hro ?_
  refine runX_ret hC (rs := []) rfl (vs := []) trivial (hL3 _) ⟨Mem.le_trans hM1 hM2, ?_⟩
  rw [txnV, ho]
  refine ⟨rfl, ?_⟩
  rw [hcs, List.append_assoc] at hB3
  show VoAt bv S.v (l ++ (o ++ _).data.toList) R L3
  simpa using hB3
end Go.Proofs.YtladcmfbkiogbaaGreatDoor
namespace Go.Proofs.YtladcmfbkiogbaaGreatDoor
open Go.Chi Go.Lib
set_option maxRecDepth 10000
def getF (x : Sp) (o : Nat) : Int := if o = 1 then x.a else if o = 2 then x.b else if o = 3 then x.c else x.n
def fsB (x : Sp) : List Nat → ByteArray
  | [] => ⟨#[]⟩
  | o :: os => (sp1 ++ dgB (getF x o)) ++ fsB x os
def rwB : List Int → ByteArray
  | [] => ⟨#[]⟩
  | v :: l => (sp1 ++ dgB v) ++ rwB l
def brF (x : Sp) : List Nat → Sp → Sp
  | [], b => b
  | o :: os, b => brF x os (setF b o (getF x o))
def bareN (x : Sp) : Sp := brF x (kO x.do_) (sp0 x.do_)
def bareS (x : Sp) : Bool := ((((((bareN x).a == x.a) && ((bareN x).b == x.b)) && ((bareN x).c == x.c)) && ((bareN x).n == x.n)) && (decide (x.do_ = 2) || decide (x.text = ⟨#[]⟩))) && (decide (x.do_ = 6) || decide (x.list = []))
def tailV (x : Sp) : Option ByteArray := if x.do_ = 2 then (termV (dataE x.text).1).map fun t => sp1 ++ t else if x.do_ = 6 then some (rwB x.list) else some ⟨#[]⟩
def stepV (x : Sp) : Option ByteArray := (tailV x).bind fun t => if bareS x = true then some ((kW x.do_ ++ fsB x (kO x.do_)) ++ t) else none
theorem setF_setI {x : Sp} {o : Nat} (v : Int) (lv : Value) (h : o = 1 ∨ o = 2 ∨ o = 3 ∨ o = 4) : setE (spC x lv) o (cellsL (.int .i64 v)) = some (spC (setF x o v) lv) := by
  rcases h with rfl | rfl | rfl | rfl <;> rfl
theorem getF_ld {x : Sp} {o : Nat} (lv : Value) (h : o = 1 ∨ o = 2 ∨ o = 3 ∨ o = 4) : ldE tt 3 (spC x lv) o = some (.int .i64 (getF x o)) := by
  rcases h with rfl | rfl | rfl | rfl <;> rfl
theorem getF_set (x : Sp) (v : Int) {o : Nat} (h : o = 1 ∨ o = 2 ∨ o = 3 ∨ o = 4) : getF (setF x o v) o = v := by
  rcases h with rfl | rfl | rfl | rfl <;> rfl
theorem getF_nm {x : Sp} (h : SpP x) (o : Nat) : 0 ≤ getF x o ∧ getF x o ≤ 2147483647 := by
  have h1 := h.a
  have h2 := h.b
  have h3 := h.c
  have h4 := h.n
  simp only [nmW, Bool.and_eq_true, decide_eq_true_eq] at h1 h2 h3 h4
  unfold getF
  repeat' split
  all_goals assumption
theorem kW_sz (d : Int) : (kW d).size ≤ 5 := by
  unfold kW
  repeat' split
  all_goals decide
theorem fsB_sz {x : Sp} (h : SpP x) : ∀ os : List Nat, (fsB x os).size ≤ 20 * os.length
  | [] => Nat.zero_le _
  | o :: os => by
    have h1 := fsB_sz h os
    have h2 := dgB_sz (n := getF x o) (by have := (getF_nm h o).2; omega)
    have h3 : sp1.size = 1 := rfl
    rw [fsB, app_size, app_size, List.length_cons]; omega
theorem fsB_app (x : Sp) : ∀ (a b : List Nat), fsB x (a ++ b) = fsB x a ++ fsB x b
  | [], b => (nil_app _).symm
  | o :: a, b => by rw [List.cons_append, fsB, fsB, fsB_app x a b]; simp only [app_assoc]
theorem brF_app (x : Sp) : ∀ (a b : List Nat) (q : Sp), brF x (a ++ b) q = brF x b (brF x a q)
  | [], _, _ => rfl
  | o :: a, b, q => by rw [List.cons_append, brF, brF, brF_app x a b]
theorem brF_do (x : Sp) : ∀ (a : List Nat) (q : Sp), (brF x a q).do_ = q.do_ ∧ (brF x a q).text = q.text ∧ (brF x a q).list = q.list
  | [], _ => ⟨rfl, rfl, rfl⟩
  | o :: a, q => by
    obtain ⟨h1, h2, h3⟩ := brF_do x a (setF q o (getF x o))
    obtain ⟨f1, f2, f3⟩ := setF_do q o (getF x o)
    exact ⟨h1.trans f1, h2.trans f2, h3.trans f3⟩
theorem rwB_app : ∀ (a b : List Int), rwB (a ++ b) = rwB a ++ rwB b
  | [], b => (nil_app _).symm
  | o :: a, b => by rw [List.cons_append, rwB, rwB, rwB_app a b]; simp only [app_assoc]
theorem rwB_sz : ∀ {l : List Int}, (∀ v ∈ l, nmW v = true) → (rwB l).size ≤ 20 * l.length
  | [], _ => Nat.zero_le _
  | v :: l, h => by
    have h1 := rwB_sz fun w hw => h w (List.mem_cons_of_mem _ hw)
    have hv := h v List.mem_cons_self
    simp only [nmW, Bool.and_eq_true, decide_eq_true_eq] at hv
    have h2 := dgB_sz (n := v) (by omega)
    have h3 : sp1.size = 1 := rfl
    rw [rwB, app_size, app_size, List.length_cons]; omega
theorem tailV_sz {x : Sp} {t : ByteArray} (h : SpP x) (ht : tailV x = some t) : t.size ≤ 1376300 := by
  unfold tailV at ht
  split at ht
  · obtain ⟨u, hu, rfl⟩ := Option.map_eq_some_iff.1 ht
    have := termV_sz (Nat.lt_of_le_of_lt dataE_sz (by decide)) hu
    have h3 : sp1.size = 1 := rfl
    rw [app_size]; omega
  split at ht
  · cases ht
    have := rwB_sz h.list
    have := h.len
    omega
  · cases ht; exact Nat.zero_le _
theorem stepV_sz {x : Sp} {t : ByteArray} (h : SpP x) (ht : stepV x = some t) : t.size ≤ 1376500 := by
  obtain ⟨u, hu, ht⟩ := Option.bind_eq_some_iff.1 ht
  split at ht
  · cases ht
    have h1 := tailV_sz h hu
    have h2 := kW_sz x.do_
    have h3 := fsB_sz h (kO x.do_)
    have h4 := kO_le x.do_
    rw [app_size, app_size]; omega
  · cases ht
set_option maxHeartbeats 32000000 in
theorem vstep_ok (M : Mem) (L R : HL) (hG : G38 M) (bv : Nat) (nv : Value) (l : List UInt8) (r : Sr) (hr : SrOk M r) (hx : SpP r.sp) (h : VoAt bv nv l R L) (hz : l.length + 1500000 < 1099511627776) :
    TrE Tryz.prog 143 [pt bv, .agg ⟨srC r⟩] M L (vK bv nv l R M (stepV r.sp)) := by
  obtain ⟨x, hxe⟩ : ∃ x, r.sp = x := ⟨_, rfl⟩
  rw [hxe] at hx ⊢
  have hsr : srC r = spC x r.list.v := by rw [← hxe]; rfl
  have hxd : r.do_ = x.do_ := by rw [← hxe]; rfl
  rw [hsr]
  obtain ⟨R0, hR⟩ : ∃ R, stepV x = R := ⟨_, rfl⟩
  rw [hR]
  rw [stepV] at hR
  have hk5 := kW_sz x.do_
  have hkO := kO_le x.do_
  have hfz := fsB_sz hx
  have h3s : sp1.size = 1 := rfl
  refine TrE.intro 135 Tryz.func143 rfl rfl Tryz.call143 rfl ?_; intro C hC hro
  repeat (first | refine yy ?_ | refine yx fun _ => ?_)
  rename_i b3 b4
  have hB := (h.cons (b3, .cells ⟨spC x r.list.v⟩ 60 (0, 0))).cons (b4, .cells ⟨spC (sp0 x.do_) (.slice none 0 0)⟩ 60 (0, 0))
  refine oc (fields_ok M _ b4 x.do_ _ List.mem_cons_self) ?_
  rintro _ M1 _ ⟨hM1, rfl, a4, rfl, hs4⟩
  repeat (first | refine yy ?_ | refine yx fun _ => ?_)
  refine oc (fields_ok M1 _ b3 x.do_ _ (List.mem_cons_of_mem _ List.mem_cons_self)) ?_
  rintro _ M2 _ ⟨hM2, rfl, a3, rfl, hs3⟩
  have hs4 := hs4.le hM2
  repeat (first | refine yy ?_ | refine yx fun _ => ?_)
  refine oc (say1_ok _ _ _ bv _ _ l (kW x.do_) hB (by omega)) ?_
  rintro _ M3 L3 ⟨hM3, hB3⟩
  have hs4 := hs4.le hM3
  have hs3 := hs3.le hM3
  have hMM := Mem.le_trans (Mem.le_trans hM1 hM2) hM3
  clear hB
  repeat (first | refine yy ?_ | refine yx fun _ => ?_)
  refine run_loopN (fun j σ1 M4 L4 => j ≤ (kO x.do_).length ∧ M3.le M4 ∧ VoAt bv nv (l ++ (kW x.do_ ++ fsB x ((kO x.do_).take j)).data.toList) ((b4, .cells ⟨spC (brF x ((kO x.do_).take j) (sp0 x.do_)) (.slice none 0 0)⟩ 60 (0, 0)) :: (b3, .cells ⟨spC x r.list.v⟩ 60 (0, 0)) :: R) L4 ∧ σ1 = [(32, iv j), (31, iv (kO x.do_).length), (30, .slice a4 (kO x.do_).length (kO x.do_).length), (8, .slice a3 (kO x.do_).length (kO x.do_).length), (4, pt b4), (3, pt b3), (0, pt bv)]) (kO x.do_).length [(32, iv 0), (31, iv (kO x.do_).length), (30, .slice a4 (kO x.do_).length (kO x.do_).length), (8, .slice a3 (kO x.do_).length (kO x.do_).length), (4, pt b4), (3, pt b3), (0, pt bv)] ?_ ⟨Nat.zero_le _, Mem.le_refl _, by rw [List.take_zero, fsB, app_nil]; exact hB3, rfl⟩ (fun j _ _ _ h => h.1) ?_
  · exact ⟨rfl, rfl, rfl, rfl, rfl, rfl, rfl, trivial⟩
  clear hB3
  rintro j _ M4 L4 ⟨hj, hM4, hB4, rfl⟩ hnext
  repeat (first | refine yy ?_ | refine yx fun _ => ?_)
  refine run_cond (t := decide ((j : Int) < ((kO x.do_).length : Int))) rfl (fun h2 => ?_) (fun h2 => ?_)
  · have hlt : j < (kO x.do_).length := by have := of_decide_eq_true h2; omega
    obtain ⟨q4, f4, c4, rfl, hc4, _, hl4⟩ := (hs4.le hM4).at_ hlt
    obtain ⟨o, ho, rfl⟩ : ∃ o, (kO x.do_)[j]? = some o ∧ fdC b4 o = c4 := by simpa using hc4
    obtain ⟨q3, f3, c3, rfl, hc3, _, hl3⟩ := (hs3.le hM4).at_ hlt
    obtain ⟨o', ho', rfl⟩ : ∃ o, (kO x.do_)[j]? = some o ∧ fdC b3 o = c3 := by simpa using hc3
    obtain rfl : o = o' := Option.some.inj (ho.symm.trans ho')
    have hin := kO_in (List.mem_of_getElem? ho)
    have htk := take_snoc ho
    have hft : fsB x ((kO x.do_).take (j + 1)) = fsB x ((kO x.do_).take j) ++ (sp1 ++ dgB (getF x o)) := by rw [htk, fsB_app, fsB, fsB, app_nil]
    have hbt : brF x ((kO x.do_).take (j + 1)) (sp0 x.do_) = setF (brF x ((kO x.do_).take j) (sp0 x.do_)) o (getF x o) := by rw [htk, brF_app]; rfl
    have hnm := getF_nm hx o
    have hsz := hfz ((kO x.do_).take j)
    have hln : ((kO x.do_).take j).length ≤ 3 := by rw [List.length_take]; omega
    generalize hq : brF x ((kO x.do_).take j) (sp0 x.do_) = q at *
    have hm3 := hB4.memR (List.mem_cons_of_mem _ List.mem_cons_self)
    obtain ⟨L5, hu, hB5⟩ := VoAt.upd (A := []) (.cells ⟨spC (setF q o (getF x o)) (.slice none 0 0)⟩ 60 (0, 0)) hB4
    repeat (first | refine yy ?_ | refine yx fun _ => ?_ | refine vq ?_ (qt_ld tok rfl hm3 (getF_ld _ hin)) | refine ws ?_ rfl rfl rfl rfl rfl hu (setF_setI _ _ hin))
    refine oc (say1_ok _ _ _ bv _ _ _ sp1 hB5 (by rw [List.length_append, ba_len, app_size]; omega)) ?_
    rintro _ M6 L6 ⟨hM6, hB6⟩
    have hm4 := hB6.memR List.mem_cons_self
    repeat (first | refine yy ?_ | refine yx fun _ => ?_ | refine vq ?_ (qt_ld tok rfl hm4 (getF_ld _ hin)))
    have hM34 := Mem.le_trans hM4 hM6
    refine runL_as 51 (.int .i64 (getF x o)) rfl (congrArg (Value.int .i64) (getF_set _ _ hin)) ?_
    refine oc (vnum_ok _ _ _ (hG.le (Mem.le_trans hMM hM34)) bv nv _ _ hnm.1 (by omega) hB6 (by simp only [List.length_append, ba_len, app_size]; omega)) ?_
    rintro _ M7 L7 ⟨hM7, hB7⟩
    repeat (first | refine yy ?_ | refine yx fun _ => ?_)
    refine run_sub' (hnext _ _ _ ⟨hlt, Mem.le_trans hM34 hM7, ?_, rfl⟩) ⟨lk_succ rfl (by omega), rfl, rfl, rfl, rfl, rfl, rfl, trivial⟩
    rw [hft, hbt]
    simpa using hB7
  have hge : j = (kO x.do_).length := by have := of_decide_eq_false h2; omega
  subst hge
  clear hnext
  rw [List.take_length] at hB4
  have hM4 := Mem.le_trans hMM hM4
  have hxl := brF_do x (kO x.do_) (sp0 x.do_)
  have hsz := hfz (kO x.do_)
  have hm3 := hB4.memR (List.mem_cons_of_mem _ List.mem_cons_self)
  iterate 7 refine yy ?_
  refine run_cut (fun σ' M' L' => ∃ t bt la ln lc, tailV x = some t ∧ (bt = if x.do_ = 2 then x.text else ⟨#[]⟩) ∧ (ln = if x.do_ = 6 then r.list.len else 0) ∧ M.le M' ∧ σ' = [(4, pt b4), (3, pt b3), (0, pt bv)] ∧ VoAt bv nv (l ++ ((kW x.do_ ++ fsB x (kO x.do_)) ++ t).data.toList) ((b4, .cells ⟨spC { bareN x with text := bt } (.slice la ln lc)⟩ 60 (0, 0)) :: (b3, .cells ⟨spC x r.list.v⟩ 60 (0, 0)) :: R) L') ?_ ?_
  · rintro _ M5 L5 ⟨t, bt, la, ln, lc, htl, hbt, hln, hM5, rfl, hB5⟩
    rw [htl, Option.bind_some] at hR
    have hm4 := hB5.memR List.mem_cons_self
    have hm3 := hB5.memR (List.mem_cons_of_mem _ List.mem_cons_self)
    have hlist : x.list.length = r.list.len := by rw [← hxe]; exact hr.list.len
    repeat (first | refine yy ?_ | refine yx fun _ => ?_)
    have he : ((((((((bareN x).a == x.a) && ((bareN x).b == x.b)) && ((bareN x).c == x.c)) && ((bareN x).n == x.n)) && (bt.toList == x.text.toList)) && ((ln : Int) == (r.list.len : Int)))) = bareS x := by
      have e1 : (bt.toList == x.text.toList) = (decide (x.do_ = 2) || decide (x.text = ⟨#[]⟩)) := by
        rw [bytes_beq, hbt]
        by_cases hd : x.do_ = 2
        · simp [hd]
        · simp [hd, eq_comm]
      have e2 : ((ln : Int) == (r.list.len : Int)) = (decide (x.do_ = 6) || decide (x.list = [])) := by
        rw [hln, ← hlist]
        by_cases hd : x.do_ = 6
        · simp [hd]
        · cases x.list <;> simp [hd] <;> omega
      rw [e1, e2]; rfl
    refine umR (b := ((((((((bareN x).a == x.a) && ((bareN x).b == x.b)) && ((bareN x).c == x.c)) && ((bareN x).n == x.n)) && (bt.toList == x.text.toList)) && ((ln : Int) == (r.list.len : Int))))) (fun h1 => ?_) (fun h1 => ?_)
    rotate_left
    · rw [he] at h1
      rw [if_neg (by rw [h1]; decide)] at hR
      obtain ⟨p', v', N, _, hL, _⟩ := hB5
      exact runX_pan hC (fun _ h => h) ⟨hM5, by rw [← hR]; exact ⟨rfl, _, panN (panN (panN hL))⟩⟩
    · rw [he] at h1
      rw [if_pos h1] at hR
      repeat (first | refine yy ?_ | refine yx fun _ => ?_)
      obtain ⟨L6, hL6, hB6⟩ := hB5.drop
      obtain ⟨L7, hL7, hB7⟩ := hB6.drop
      refine run_endX hro ?_
      exact runX_ret hC (rs := []) rfl (vs := []) trivial (fun w h => hL7 _ w (hL6 _ w h)) ⟨hM5, by rw [← hR]; exact ⟨rfl, hB7⟩⟩
  intro hk
  have hln0 : (l ++ (kW x.do_ ++ fsB x (kO x.do_)).data.toList).length ≤ l.length + 65 := by rw [List.length_append, ba_len, app_size]; omega
  have hap : ∀ t : ByteArray, l ++ ((kW x.do_ ++ fsB x (kO x.do_)) ++ t).data.toList = (l ++ (kW x.do_ ++ fsB x (kO x.do_)).data.toList) ++ t.data.toList := fun t => by simp
  generalize hl0 : l ++ (kW x.do_ ++ fsB x (kO x.do_)).data.toList = l0 at hln0 hap hB4
  have hbn : brF x (kO x.do_) (sp0 x.do_) = bareN x := rfl
  rw [hbn] at hB4 hxl
  have hbt0 : (bareN x).text = ⟨#[]⟩ := hxl.2.1
  repeat (first | refine yy ?_ | refine yx fun _ => ?_)
  refine run_cond (t := x.do_ == 2) rfl (fun h2 => ?_) (fun h2 => ?_)
  · have hd2 : x.do_ = 2 := by simpa using h2
    rw [tailV, if_pos hd2] at hR
    obtain ⟨L5, hu, hB5⟩ := VoAt.upd (A := []) (.cells ⟨spC { bareN x with text := x.text } (.slice none 0 0)⟩ 60 (0, 0)) hB4
    have hm5 := hB5.memR (List.mem_cons_of_mem _ List.mem_cons_self)
    have hdz := dataE_sz (s := x.text)
    repeat (first | refine yy ?_ | refine yx fun _ => ?_ | refine ws ?_ rfl rfl rfl rfl rfl hu rfl)
    refine qc (data_ok _ _ x.text (by have := hx.text; omega)) ?_
    repeat (first | refine yy ?_ | refine yx fun _ => ?_)
    refine oc (say1_ok _ _ _ bv _ _ _ sp1 hB5 (by omega)) ?_
    rintro _ M6 L6 ⟨hM6, hB6⟩
    repeat (first | refine yy ?_ | refine yx fun _ => ?_)
    refine vR (vterm_ok _ _ _ bv nv _ (dataE x.text).1 (by omega) hB6 (by rw [List.length_append, ba_len]; omega)) (fun t M7 L7 ht hM7 hB7 => ?_) (fun ht M7 L7 N hM7 hN => ?_)
    rotate_left
    · rw [ht] at hR
      exact runX_pan hC (fun _ h => h) ⟨Mem.le_trans hM4 (Mem.le_trans hM6 hM7), by rw [← hR]; exact ⟨rfl, _, panN (panN hN)⟩⟩
    refine yi ?_
    refine yy ?_
    refine run_sub' (hk _ _ _ ⟨sp1 ++ t, x.text, none, 0, 0, by rw [tailV, if_pos hd2, ht]; rfl, by rw [if_pos hd2], by rw [if_neg (by omega)], Mem.le_trans hM4 (Mem.le_trans hM6 hM7), rfl, ?_⟩) ⟨rfl, rfl, rfl, trivial⟩
    rw [hap]
    simpa using hB7
  have hd2 : ¬ x.do_ = 2 := by simpa using h2
  repeat (first | refine yy ?_ | refine yx fun _ => ?_)
  refine run_cond (t := x.do_ == 6) rfl (fun h6 => ?_) (fun h6 => ?_)
  rotate_left
  · have hd6 : ¬ x.do_ = 6 := by simpa using h6
    refine yi ?_
    refine yy ?_
    refine run_sub' (hk _ _ _ ⟨⟨#[]⟩, ⟨#[]⟩, none, 0, 0, by rw [tailV, if_neg hd2, if_neg hd6], by rw [if_neg hd2], by rw [if_neg hd6], hM4, rfl, ?_⟩) ⟨rfl, rfl, rfl, trivial⟩
    rw [hap]
    have hbn' : ({ bareN x with text := ⟨#[]⟩ } : Sp) = bareN x := by rw [← hbt0]
    rw [hbn']
    simpa using hB4
  have hd6 : x.do_ = 6 := by simpa using h6
  obtain ⟨L5, hu, hB5⟩ := VoAt.upd (A := []) (.cells ⟨spC (bareN x) r.list.v⟩ 60 (0, 0)) hB4
  have hm5 := hB5.memR (List.mem_cons_of_mem _ List.mem_cons_self)
  have hll : x.list = r.list.xs := by rw [← hxe]; rfl
  have hlen := hr.list.len
  have hl32 := hx.len
  have hrw := rwB_sz hx.list
  have hl6 := hr.list.2
  repeat (first | refine yy ?_ | refine yx fun _ => ?_ | refine ws ?_ rfl rfl rfl rfl rfl hu rfl)
  refine run_loopN (fun j σ1 M6 L6 => j ≤ r.list.len ∧ M.le M6 ∧ VoAt bv nv (l0 ++ (rwB (x.list.take j)).data.toList) ((b4, .cells ⟨spC (bareN x) r.list.v⟩ 60 (0, 0)) :: (b3, .cells ⟨spC x r.list.v⟩ 60 (0, 0)) :: R) L6 ∧ σ1 = [(81, iv j), (80, iv r.list.len), (79, r.list.v), (4, pt b4), (3, pt b3), (0, pt bv)]) r.list.len [(81, iv 0), (80, iv r.list.len), (79, r.list.v), (4, pt b4), (3, pt b3), (0, pt bv)] ?_ ⟨Nat.zero_le _, hM4, by simpa [rwB] using hB5, rfl⟩ (fun j _ _ _ h => h.1) ?_
  · exact ⟨rfl, rfl, rfl, rfl, rfl, rfl, trivial⟩
  clear hB5 hm5
  rintro j _ M6 L6 ⟨hj, hM6, hB6, rfl⟩ hnext
  repeat (first | refine yy ?_ | refine yx fun _ => ?_)
  refine run_cond (t := decide ((j : Int) < (r.list.len : Int))) rfl (fun h7 => ?_) (fun h7 => ?_)
  · have hlt : j < r.list.len := by have := of_decide_eq_true h7; omega
    obtain ⟨b, off, m, hma, hm, hc⟩ := SIn.at_ (hr.list.le hM6).1 hlt
    have hv : r.list.v = .slice (some ⟨b, off, none⟩) r.list.len r.list.cap := by rw [← hma]; rfl
    have hmx : x.list[j]? = some m := by rw [hll]; exact hm
    have hnm := hx.list m (List.mem_of_getElem? hmx)
    simp only [nmW, Bool.and_eq_true, decide_eq_true_eq] at hnm
    have htk : rwB (x.list.take (j + 1)) = rwB (x.list.take j) ++ (sp1 ++ dgB m) := by rw [take_snoc hmx, rwB_app, rwB, rwB, app_nil]
    have hzj : (rwB (x.list.take j)).size ≤ 20 * (x.list.take j).length := rwB_sz fun v hv => hx.list v (List.mem_of_mem_take hv)
    rw [List.length_take] at hzj
    refine run_as 79 (.slice (some ⟨b, off, none⟩) r.list.len r.list.cap) rfl hv ?_
    repeat (first | refine yy ?_ | refine yx fun _ => ?_)
    refine oc (say1_ok _ _ _ bv _ _ _ sp1 hB6 (by rw [List.length_append, ba_len]; omega)) ?_
    rintro _ M7 L7 ⟨hM7, hB7⟩
    repeat (first | refine yy ?_ | refine yx fun _ => ?_)
    refine oc (vnum_ok _ _ _ (hG.le (Mem.le_trans hM6 hM7)) bv nv _ _ hnm.1 (by omega) hB7 (by simp only [List.length_append, ba_len]; omega)) ?_
    rintro _ M8 L8 ⟨hM8, hB8⟩
    repeat (first | refine yy ?_ | refine yx fun _ => ?_)
    refine run_sub' (hnext _ _ _ ⟨hlt, Mem.le_trans hM6 (Mem.le_trans hM7 hM8), ?_, rfl⟩) ⟨lk_succ rfl (by omega), rfl, by rw [hv]; rfl, rfl, rfl, rfl, trivial⟩
    rw [htk]
    simpa using hB8
  have hge : j = r.list.len := by have := of_decide_eq_false h7; omega
  rw [hge, ← hlen, ← hll, List.take_length] at hB6
  repeat (first | refine yi ?_)
  refine yy ?_
  refine run_sub' (hk _ _ _ ⟨rwB x.list, ⟨#[]⟩, r.list.a, r.list.len, r.list.cap, by rw [tailV, if_neg hd2, if_pos hd6], by rw [if_neg hd2], by rw [if_pos hd6], hM6, rfl, ?_⟩) ⟨rfl, rfl, rfl, trivial⟩
  rw [hap]
  have hbn' : ({ bareN x with text := ⟨#[]⟩ } : Sp) = bareN x := by rw [← hbt0]
  rw [hbn']
  exact hB6
end Go.Proofs.YtladcmfbkiogbaaGreatDoor
namespace Go.Proofs.YtladcmfbkiogbaaGreatDoor
open Go.Chi Go.Lib
set_option maxRecDepth 10000
def stepsW : Bool → List Sp → Option ByteArray
  | _, [] => some ⟨#[]⟩
  | f, x :: l => (stepV x).bind fun a => (stepsW false l).bind fun b => some ((if f then a else plusB ++ a) ++ b)
def stepsV (l : List Sp) : Option ByteArray := if l = [] then some wNothing else stepsW true l
theorem stepsW_sz : ∀ {l : List Sp} {f : Bool} {t : ByteArray}, (∀ x ∈ l, SpP x) → stepsW f l = some t → t.size ≤ 1376600 * l.length
  | [], f, t, _, h => by cases h; exact Nat.zero_le _
  | x :: l, f, t, hp, h => by
    rw [stepsW] at h
    obtain ⟨a, ha, h⟩ := Option.bind_eq_some_iff.1 h
    obtain ⟨b, hb, h⟩ := Option.bind_eq_some_iff.1 h
    cases h
    have h1 := stepV_sz (hp x List.mem_cons_self) ha
    have h2 := stepsW_sz (fun y hy => hp y (List.mem_cons_of_mem _ hy)) hb
    have h3 : plusB.size = 3 := rfl
    rw [app_size, List.length_cons]
    split
    · omega
    · rw [app_size]; omega
theorem stepsV_sz {l : List Sp} {t : ByteArray} (hl : l.length ≤ 64) (hp : ∀ x ∈ l, SpP x) (h : stepsV l = some t) : t.size ≤ 90000000 := by
  unfold stepsV at h
  split at h
  · cases h; decide
  · have := stepsW_sz hp h; omega
def aft (t : ByteArray) (o : Option ByteArray) : Option ByteArray := o.map fun u => t ++ u
theorem aft_bind (t a : ByteArray) (o : Option ByteArray) : aft t (o.bind fun b => some (a ++ b)) = aft (t ++ a) o := by
  cases o with
  | none => rfl
  | some u => simp [aft, app_assoc]
set_option maxHeartbeats 16000000 in
theorem vsteps_ok (M : Mem) (L R : HL) (hG : G38 M) (bv : Nat) (nv : Value) (l : List UInt8) (S : SSr) (hS : SsOk M S) (hp : ∀ x ∈ S.xs.map Sr.sp, SpP x) (h64 : S.xs.length ≤ 64) (h : VoAt bv nv l R L) (hz : l.length + 100000000 < 1099511627776) :
    TrE Tryz.prog 113 [pt bv, S.v] M L (vK bv nv l R M (stepsV (S.xs.map Sr.sp))) := by
  obtain ⟨R0, hR⟩ : ∃ R, stepsV (S.xs.map Sr.sp) = R := ⟨_, rfl⟩
  rw [hR]
  rw [stepsV] at hR
  have hlen := hS.len
  have hlt6 := hS.lt
  refine TrE.intro 28 Tryz.func113 rfl rfl Tryz.call113 rfl ?_; intro C hC hro
  repeat (first | refine yy ?_ | refine yx fun _ => ?_)
  refine run_condI (fun σ' M' L' => ∃ t, M.le M' ∧ σ' = [(0, pt bv), (1, S.v)] ∧ VoAt bv nv (l ++ t.data.toList) R L' ∧ (S.len = 0 → R0 = some t) ∧ (S.len ≠ 0 → t = ⟨#[]⟩)) (t := (S.len : Int) == 0) rfl (fun h0 hk => ?_) (fun h0 hk => ?_) ?_
  · have h0' : S.len = 0 := by simpa using h0
    have hnil : S.xs.map Sr.sp = [] := by rw [List.map_eq_nil_iff]; exact List.length_eq_zero_iff.1 (by omega)
    rw [if_pos hnil] at hR
    repeat (first | refine yy ?_ | refine yx fun _ => ?_)
    refine oc (say1_ok _ _ _ bv _ _ _ wNothing h (by show l.length + 7 < _; omega)) ?_
    rintro _ M1 L1 ⟨hM1, hB1⟩
    refine yy ?_
    exact run_sub' (hk _ _ _ ⟨wNothing, hM1, rfl, hB1, fun _ => hR.symm, fun h => absurd h0' h⟩) ⟨rfl, rfl, trivial⟩
  · have h0' : S.len ≠ 0 := by simpa using h0
    refine yy ?_
    exact run_sub' (hk _ _ _ ⟨⟨#[]⟩, Mem.le_refl _, rfl, by simpa using h, fun h => absurd h h0', fun _ => rfl⟩) ⟨rfl, rfl, trivial⟩
  rintro _ M1 L1 ⟨t0, hM1, rfl, hB1, ht0, ht1⟩
  repeat (first | refine yy ?_ | refine yx fun _ => ?_)
  refine run_loopN (fun j σ1 M2 L2 => j ≤ S.len ∧ M.le M2 ∧ (∃ t, VoAt bv nv (l ++ t.data.toList) R L2 ∧ t.size ≤ 7 + 1376600 * j ∧ (S.len = 0 → R0 = some t) ∧ (S.len ≠ 0 → R0 = aft t (stepsW (decide (j = 0)) ((S.xs.map Sr.sp).drop j)))) ∧ σ1 = [(14, iv j), (13, iv S.len), (12, S.v), (0, pt bv)]) S.len [(14, iv 0), (13, iv S.len), (12, S.v), (0, pt bv)] ?_ ⟨Nat.zero_le _, hM1, ⟨t0, hB1, ?_, ht0, ?_⟩, rfl⟩ (fun j _ _ _ h => h.1) ?_
  · exact ⟨rfl, rfl, rfl, rfl, trivial⟩
  · by_cases h0 : S.len = 0
    · have hnil : S.xs.map Sr.sp = [] := by rw [List.map_eq_nil_iff]; exact List.length_eq_zero_iff.1 (by omega)
      have := ht0 h0
      rw [if_pos hnil, this] at hR
      cases hR
      decide
    · rw [ht1 h0]; exact Nat.zero_le _
  · intro h0
    rw [ht1 h0, ← hR, if_neg (fun hc => h0 (by rw [← hlen]; rw [List.map_eq_nil_iff] at hc; rw [hc]; rfl))]
    show stepsW true _ = aft _ (stepsW true _)
    rw [List.drop_zero, aft]
    cases stepsW true (S.xs.map Sr.sp) with
    | none => rfl
    | some u => show some u = some (⟨#[]⟩ ++ u); rw [nil_app]
  rintro j _ M2 L2 ⟨hj, hM2, ⟨t, hB2, htz, hR0, hR1⟩, rfl⟩ hnext
  repeat (first | refine yy ?_ | refine yx fun _ => ?_)
  refine run_cond (t := decide ((j : Int) < (S.len : Int))) rfl (fun h2 => ?_) (fun h2 => ?_)
  rotate_left
  · have hge : j = S.len := by have := of_decide_eq_false h2; omega
    have hRt : R0 = some t := by
      by_cases h0 : S.len = 0
      · exact hR0 h0
      · rw [hR1 h0, hge, List.drop_of_length_le (by rw [List.length_map]; omega), stepsW, aft, Option.map_some, app_nil]
    repeat (first | refine yy ?_ | refine yx fun _ => ?_)
    refine run_endX hro ?_
    exact runX_ret hC (rs := []) rfl (vs := []) trivial (fun _ h => h) ⟨hM2, by rw [hRt]; exact ⟨rfl, hB2⟩⟩
  have hlt : j < S.len := by have := of_decide_eq_true h2; omega
  obtain ⟨b, off, m, hma, hm, hc⟩ := SSr.at_ (hS.le hM2).sl hlt
  have hv : S.v = .slice (some ⟨b, off, none⟩) S.len S.cap := by rw [← hma]; rfl
  have hmo := (hS.le hM2).each m (List.mem_of_getElem? hm)
  have hmx : (S.xs.map Sr.sp)[j]? = some m.sp := by rw [List.getElem?_map, hm]; rfl
  have hlx : j < (S.xs.map Sr.sp).length := (List.getElem?_eq_some_iff.1 hmx).1
  have hmp := hp m.sp (List.mem_of_getElem? hmx)
  have hR2 := hR1 (by omega)
  rw [List.drop_eq_getElem_cons hlx, (List.getElem?_eq_some_iff.1 hmx).2, stepsW] at hR2
  refine run_as 12 (.slice (some ⟨b, off, none⟩) S.len S.cap) rfl hv ?_
  repeat (first | refine yy ?_ | refine yx fun _ => ?_)
  rename_i b5
  have hB2' := hB2.cons (b5, .cells ⟨srC m⟩ 60 (0, 0))
  refine run_condI (fun σ' M' L' => M2.le M' ∧ VoAt bv nv (l ++ (if j = 0 then t else t ++ plusB).data.toList) ((b5, .cells ⟨srC m⟩ 60 (0, 0)) :: R) L' ∧ σ' = [(5, pt b5), (12, .slice (some ⟨b, off, none⟩) S.len S.cap), (14, iv j), (13, iv S.len), (0, pt bv)]) (t := decide ((j : Int) > 0)) rfl (fun h0 hk => ?_) (fun h0 hk => ?_) ?_
  · have hj0 : j ≠ 0 := by have := of_decide_eq_true h0; omega
    refine yy ?_
    refine yy ?_
    refine yx fun b6 => ?_
    refine oc (say1_ok _ _ _ bv _ _ _ plusB hB2' (by rw [List.length_append, ba_len]; show _ + 3 < _; omega)) ?_
    rintro _ M3 L3 ⟨hM3, hB3⟩
    refine yy ?_
    exact run_sub' (hk _ _ _ ⟨hM3, by rw [if_neg hj0]; simpa using hB3, rfl⟩) ⟨rfl, rfl, rfl, rfl, rfl, trivial⟩
  · have hj0 : j = 0 := by have := of_decide_eq_false h0; omega
    refine yy ?_
    exact run_sub' (hk _ _ _ ⟨Mem.le_refl _, by rw [if_pos hj0]; exact hB2', rfl⟩) ⟨rfl, rfl, rfl, rfl, rfl, trivial⟩
  rintro _ M3 L3 ⟨hM3, hB3, rfl⟩
  have hM23 := Mem.le_trans hM2 hM3
  have hm5 := hB3.memR List.mem_cons_self
  have htz3 : (if j = 0 then t else t ++ plusB).size ≤ t.size + 3 := by
    split
    · omega
    · rw [app_size]; exact Nat.le_refl _
  repeat (first | refine yy ?_ | refine yx fun _ => ?_)
  refine vR (vstep_ok _ _ _ (hG.le hM23) bv nv _ m (hmo.le hM3) hmp hB3 (by rw [List.length_append, ba_len]; omega)) (fun u M4 L4 hu hM4 hB4 => ?_) (fun hu M4 L4 N hM4 hN => ?_)
  rotate_left
  · rw [hu] at hR2
    exact runX_pan hC (fun _ h => h) ⟨Mem.le_trans hM23 hM4, by rw [hR2]; exact ⟨rfl, _, panN hN⟩⟩
  rw [hu, Option.bind_some] at hR2
  have huz := stepV_sz hmp hu
  obtain ⟨L5, hL5, hB5⟩ := hB4.drop
  repeat (first | refine yy ?_ | refine yx fun _ => ?_)
  refine run_mem (hL5 _) (run_sub' (hnext _ _ _ ⟨hlt, Mem.le_trans hM23 hM4, ⟨t ++ (if decide (j = 0) = true then u else plusB ++ u), ?_, ?_, fun h => by omega, fun _ => ?_⟩, rfl⟩) ⟨lk_succ rfl (by omega), rfl, by rw [hv]; rfl, rfl, trivial⟩)
  · by_cases h0 : j = 0
    · simpa [h0] using hB5
    · simpa [h0] using hB5
  · rw [app_size]
    split
    · omega
    · rw [app_size, show plusB.size = 3 from rfl]; omega
  · rw [hR2, aft_bind]
    rfl
end Go.Proofs.YtladcmfbkiogbaaGreatDoor
namespace Go.Chi
section
variable {P : Program} {T : TT} {ro : Option Nat} {σ : Env} {δ : Den} {cur : Path} {M : Mem} {L : HL} {d : Option Nat} {ty : TypeId} {pos : String} {aft : Array Edge} {g : Option (Nat × Bool)} {v : Value}
theorem qt_min2 {x y : Operand} {tys : Array TypeId} {k k' : IntKind} {m n : Int} (hx : ev σ δ cur x = some (.int k m)) (hy : ev σ δ cur y = some (.int k' n)) :
    Qt P ro ⟨d, .call ⟨.builtin .min, #[x, y], tys⟩, ty, pos, aft, g⟩ σ δ cur M L (.int k (if n < m then n else m)) :=
  qt_of_run (semAt_of (by intro c e; cases e)) fun a w hs hcur hp => by
    simp [execOp, resolve, invoke, builtin, Builtin.min_, Builtin.min2, ev_sound hs hcur hx, ev_sound hs hcur hy]
end
end Go.Chi
namespace Go.Proofs.YtladcmfbkiogbaaGreatDoor
open Go.Chi Go.Lib
set_option maxRecDepth 10000
def vBegins : ByteArray := ⟨#[32, 98, 101, 103, 105, 110, 115, 32, 102, 111, 114, 32]⟩
def vYes : ByteArray := ⟨#[32, 115, 97, 121, 115, 32, 121, 101, 115, 32, 116, 111, 32]⟩
def vNo : ByteArray := ⟨#[32, 115, 97, 121, 115, 32, 110, 111, 32, 116, 111, 32]⟩
def vTicks : ByteArray := ⟨#[32, 116, 105, 99, 107, 115]⟩
def vAnew : ByteArray := ⟨#[32, 98, 101, 103, 105, 110, 115, 32, 97, 110, 101, 119]⟩
def vStops : ByteArray := ⟨#[32, 115, 116, 111, 112, 115, 32, 98, 101, 104, 105, 110, 100, 32]⟩
def vCrash : ByteArray := ⟨#[32, 99, 114, 97, 115, 104, 101, 115, 32, 97, 110, 100, 32, 107, 101, 101, 112, 115, 32]⟩
def vGets : ByteArray := ⟨#[32, 103, 101, 116, 115, 32]⟩
def vJudges : ByteArray := ⟨#[32, 106, 117, 100, 103, 101, 115, 32]⟩
def vShows : ByteArray := ⟨#[32, 115, 104, 111, 119, 115, 32]⟩
def givesV (names : List ByteArray) : Bool → List Mb → Option ByteArray
  | _, [] => some ⟨#[]⟩
  | f, m :: l => (orgV names m.org.toNat).bind fun o => (termV m.digest).bind fun t => (givesV names false l).bind fun b => some ((((if f then colB else semB) ++ o) ++ (sp1 ++ t)) ++ b)
def begV (names : List ByteArray) (a : Aa) : Option ByteArray := (orgV names a.auditor.toNat).bind fun o => aft (vBegins ++ o) (givesV names true a.gives)
def verbV (names : List ByteArray) (a : Aa) : Option ByteArray :=
  if a.do_ = 1 then begV names a else if a.do_ = 2 then aft (if a.yes = true then vYes else vNo) (txnV names a.txn) else if a.do_ = 3 then some vTicks else if a.do_ = 8 then some vAnew
  else if a.do_ = 6 then some (vStops ++ dgB a.n) else if a.do_ = 7 then some (vCrash ++ dgB a.n) else if a.do_ = 5 then aft vGets (stepsV a.steps) else if a.do_ = 10 then aft vJudges (stepsV a.steps) else aft vShows (txnV names a.txn)
structure FitA (M : Mem) (ax : Ax) : Prop where
  ok : AxOk M ax
  org : 0 ≤ ax.org ∧ ax.org ≤ 7
  aud : 0 ≤ ax.auditor ∧ ax.auditor ≤ 7
  n : 0 ≤ ax.n ∧ ax.n ≤ 2147483647
  tx : 0 ≤ ax.txn.coord ∧ (0 ≤ ax.txn.epoch ∧ ax.txn.epoch ≤ 9223372036854775807) ∧ (0 ≤ ax.txn.seq ∧ ax.txn.seq ≤ 9223372036854775807)
  gives : ax.gives.xs.length ≤ 6 ∧ ∀ m ∈ ax.gives.xs, 0 ≤ m.org ∧ m.org ≤ 7 ∧ m.digest.size < 1000000
  steps : ax.steps.xs.length ≤ 64 ∧ ∀ x ∈ ax.steps.xs.map Sr.sp, SpP x
set_option maxHeartbeats 8000000 in
theorem vtick_ok (M : Mem) (L R : HL) (_ : G38 M) (bv : Nat) (l : List UInt8) (S : SStr) (_ : StOk M S) (ax : Ax) (_ : FitA M ax) (h : VoAt bv S.v l R L) (hz : l.length + 1000000000 < 1099511627776) (_ : ∀ x ∈ S.xs, x.size < 1000000) :
    TrE Tryz.prog 69 [pt bv, .agg ⟨axC ax⟩] M L (vK bv S.v l R M (some vTicks)) := by
  refine TrE.intro 7 Tryz.func69 rfl rfl Tryz.call69 rfl ?_; intro C hC hro
  refine run_seq ?_
  refine run_region ?_
  refine yx fun b3 => ?_
  refine runL_nil ?_
  have hB0 : VoAt bv S.v l (acB b3 ax :: R) (acB b3 ax :: L) := h.cons _
  have hm0 := hB0.memR List.mem_cons_self
  repeat (first | refine yy ?_ | refine yx fun _ => ?_)
  refine oc (say1_ok _ _ _ bv _ _ _ vTicks hB0 (by have : vTicks.size ≤ 30 := (by decide); omega)) ?_
  rintro _ M1 L1 ⟨hM1, hB1⟩
  have hm1 := hB1.memR List.mem_cons_self
  repeat (first | refine yy ?_ | refine yx fun _ => ?_)
  obtain ⟨L9, hL9, hB9⟩ := hB1.drop
  refine run_endX hro ?_
  refine runX_ret hC (rs := []) rfl (vs := []) trivial (hL9 _) ⟨hM1, ?_⟩
  show _ ∧ VoAt _ _ _ _ _
  refine ⟨rfl, ?_⟩
  simpa using hB9
set_option maxHeartbeats 8000000 in
theorem vanew_ok (M : Mem) (L R : HL) (_ : G38 M) (bv : Nat) (l : List UInt8) (S : SStr) (_ : StOk M S) (ax : Ax) (_ : FitA M ax) (h : VoAt bv S.v l R L) (hz : l.length + 1000000000 < 1099511627776) (_ : ∀ x ∈ S.xs, x.size < 1000000) :
    TrE Tryz.prog 70 [pt bv, .agg ⟨axC ax⟩] M L (vK bv S.v l R M (some vAnew)) := by
  refine TrE.intro 7 Tryz.func70 rfl rfl Tryz.call70 rfl ?_; intro C hC hro
  refine run_seq ?_
  refine run_region ?_
  refine yx fun b3 => ?_
  refine runL_nil ?_
  have hB0 : VoAt bv S.v l (acB b3 ax :: R) (acB b3 ax :: L) := h.cons _
  have hm0 := hB0.memR List.mem_cons_self
  repeat (first | refine yy ?_ | refine yx fun _ => ?_)
  refine oc (say1_ok _ _ _ bv _ _ _ vAnew hB0 (by have : vAnew.size ≤ 30 := (by decide); omega)) ?_
  rintro _ M1 L1 ⟨hM1, hB1⟩
  have hm1 := hB1.memR List.mem_cons_self
  repeat (first | refine yy ?_ | refine yx fun _ => ?_)
  obtain ⟨L9, hL9, hB9⟩ := hB1.drop
  refine run_endX hro ?_
  refine runX_ret hC (rs := []) rfl (vs := []) trivial (hL9 _) ⟨hM1, ?_⟩
  show _ ∧ VoAt _ _ _ _ _
  refine ⟨rfl, ?_⟩
  simpa using hB9
set_option maxHeartbeats 8000000 in
theorem varm_ok (M : Mem) (L R : HL) (hG : G38 M) (bv : Nat) (l : List UInt8) (S : SStr) (_ : StOk M S) (ax : Ax) (hf : FitA M ax) (h : VoAt bv S.v l R L) (hz : l.length + 1000000000 < 1099511627776) (_ : ∀ x ∈ S.xs, x.size < 1000000) :
    TrE Tryz.prog 71 [pt bv, .agg ⟨axC ax⟩] M L (vK bv S.v l R M (some (vStops ++ dgB ax.n))) := by
  refine TrE.intro 11 Tryz.func71 rfl rfl Tryz.call71 rfl ?_; intro C hC hro
  refine run_seq ?_
  refine run_region ?_
  refine yx fun b3 => ?_
  refine runL_nil ?_
  have hB0 : VoAt bv S.v l (acB b3 ax :: R) (acB b3 ax :: L) := h.cons _
  have hm0 := hB0.memR List.mem_cons_self
  repeat (first | refine yy ?_ | refine yx fun _ => ?_)
  refine oc (say1_ok _ _ _ bv _ _ _ vStops hB0 (by have : vStops.size ≤ 30 := (by decide); omega)) ?_
  rintro _ M1 L1 ⟨hM1, hB1⟩
  have hm1 := hB1.memR List.mem_cons_self
  repeat (first | refine yy ?_ | refine yx fun _ => ?_)
  refine oc (vnum_ok _ _ _ (hG.le hM1) bv _ _ _ hf.n.1 (by have := hf.n.2; omega) hB1 (by have : vStops.size ≤ 30 := (by decide); rw [List.length_append, ba_len]; omega)) ?_
  rintro _ M2 L2 ⟨hM2, hB2⟩
  repeat (first | refine yy ?_ | refine yx fun _ => ?_)
  obtain ⟨L9, hL9, hB9⟩ := hB2.drop
  refine run_endX hro ?_
  refine runX_ret hC (rs := []) rfl (vs := []) trivial (hL9 _) ⟨Mem.le_trans hM1 hM2, ?_⟩
  show _ ∧ VoAt _ _ _ _ _
  refine ⟨rfl, ?_⟩
  simpa using hB9
set_option maxHeartbeats 8000000 in
theorem vcrash_ok (M : Mem) (L R : HL) (hG : G38 M) (bv : Nat) (l : List UInt8) (S : SStr) (_ : StOk M S) (ax : Ax) (hf : FitA M ax) (h : VoAt bv S.v l R L) (hz : l.length + 1000000000 < 1099511627776) (_ : ∀ x ∈ S.xs, x.size < 1000000) :
    TrE Tryz.prog 72 [pt bv, .agg ⟨axC ax⟩] M L (vK bv S.v l R M (some (vCrash ++ dgB ax.n))) := by
  refine TrE.intro 11 Tryz.func72 rfl rfl Tryz.call72 rfl ?_; intro C hC hro
  refine run_seq ?_
  refine run_region ?_
  refine yx fun b3 => ?_
  refine runL_nil ?_
  have hB0 : VoAt bv S.v l (acB b3 ax :: R) (acB b3 ax :: L) := h.cons _
  have hm0 := hB0.memR List.mem_cons_self
  repeat (first | refine yy ?_ | refine yx fun _ => ?_)
  refine oc (say1_ok _ _ _ bv _ _ _ vCrash hB0 (by have : vCrash.size ≤ 30 := (by decide); omega)) ?_
  rintro _ M1 L1 ⟨hM1, hB1⟩
  have hm1 := hB1.memR List.mem_cons_self
  repeat (first | refine yy ?_ | refine yx fun _ => ?_)
  refine oc (vnum_ok _ _ _ (hG.le hM1) bv _ _ _ hf.n.1 (by have := hf.n.2; omega) hB1 (by have : vCrash.size ≤ 30 := (by decide); rw [List.length_append, ba_len]; omega)) ?_
  rintro _ M2 L2 ⟨hM2, hB2⟩
  repeat (first | refine yy ?_ | refine yx fun _ => ?_)
  obtain ⟨L9, hL9, hB9⟩ := hB2.drop
  refine run_endX hro ?_
  refine runX_ret hC (rs := []) rfl (vs := []) trivial (hL9 _) ⟨Mem.le_trans hM1 hM2, ?_⟩
  show _ ∧ VoAt _ _ _ _ _
  refine ⟨rfl, ?_⟩
  simpa using hB9
set_option maxHeartbeats 8000000 in
theorem vinject_ok (M : Mem) (L R : HL) (hG : G38 M) (bv : Nat) (l : List UInt8) (S : SStr) (_ : StOk M S) (ax : Ax) (hf : FitA M ax) (h : VoAt bv S.v l R L) (hz : l.length + 1000000000 < 1099511627776) (_ : ∀ x ∈ S.xs, x.size < 1000000) :
    TrE Tryz.prog 73 [pt bv, .agg ⟨axC ax⟩] M L (vK bv S.v l R M (aft vGets (stepsV (ax.steps.xs.map Sr.sp)))) := by
  refine TrE.intro 11 Tryz.func73 rfl rfl Tryz.call73 rfl ?_; intro C hC hro
  refine run_seq ?_
  refine run_region ?_
  refine yx fun b3 => ?_
  refine runL_nil ?_
  have hB0 : VoAt bv S.v l (acB b3 ax :: R) (acB b3 ax :: L) := h.cons _
  have hm0 := hB0.memR List.mem_cons_self
  repeat (first | refine yy ?_ | refine yx fun _ => ?_)
  refine oc (say1_ok _ _ _ bv _ _ _ vGets hB0 (by have : vGets.size ≤ 30 := (by decide); omega)) ?_
  rintro _ M1 L1 ⟨hM1, hB1⟩
  have hm1 := hB1.memR List.mem_cons_self
  repeat (first | refine yy ?_ | refine yx fun _ => ?_)
  refine vR (vsteps_ok _ _ _ (hG.le hM1) bv _ _ ax.steps (hf.ok.steps.le hM1) hf.steps.2 hf.steps.1 hB1 (by have : vGets.size ≤ 30 := (by decide); rw [List.length_append, ba_len]; omega)) (fun t M2 L2 ht hM2 hB2 => ?_) (fun ht M2 L2 N hM2 hN => ?_)
  rotate_left
  · exact runX_pan hC (fun _ h => h) ⟨Mem.le_trans hM1 hM2, by rw [ht]; exact ⟨rfl, _, panN hN⟩⟩
  repeat (first | refine yy ?_ | refine yx fun _ => ?_)
  obtain ⟨L9, hL9, hB9⟩ := hB2.drop
  refine run_endX hro ?_
  refine runX_ret hC (rs := []) rfl (vs := []) trivial (hL9 _) ⟨Mem.le_trans hM1 hM2, ?_⟩
  rw [ht]
  refine ⟨rfl, ?_⟩
  simpa using hB9
set_option maxHeartbeats 8000000 in
theorem vpresent_ok (M : Mem) (L R : HL) (hG : G38 M) (bv : Nat) (l : List UInt8) (S : SStr) (_ : StOk M S) (ax : Ax) (hf : FitA M ax) (h : VoAt bv S.v l R L) (hz : l.length + 1000000000 < 1099511627776) (_ : ∀ x ∈ S.xs, x.size < 1000000) :
    TrE Tryz.prog 74 [pt bv, .agg ⟨axC ax⟩] M L (vK bv S.v l R M (aft vJudges (stepsV (ax.steps.xs.map Sr.sp)))) := by
  refine TrE.intro 11 Tryz.func74 rfl rfl Tryz.call74 rfl ?_; intro C hC hro
  refine run_seq ?_
  refine run_region ?_
  refine yx fun b3 => ?_
  refine runL_nil ?_
  have hB0 : VoAt bv S.v l (acB b3 ax :: R) (acB b3 ax :: L) := h.cons _
  have hm0 := hB0.memR List.mem_cons_self
  repeat (first | refine yy ?_ | refine yx fun _ => ?_)
  refine oc (say1_ok _ _ _ bv _ _ _ vJudges hB0 (by have : vJudges.size ≤ 30 := (by decide); omega)) ?_
  rintro _ M1 L1 ⟨hM1, hB1⟩
  have hm1 := hB1.memR List.mem_cons_self
  repeat (first | refine yy ?_ | refine yx fun _ => ?_)
  refine vR (vsteps_ok _ _ _ (hG.le hM1) bv _ _ ax.steps (hf.ok.steps.le hM1) hf.steps.2 hf.steps.1 hB1 (by have : vJudges.size ≤ 30 := (by decide); rw [List.length_append, ba_len]; omega)) (fun t M2 L2 ht hM2 hB2 => ?_) (fun ht M2 L2 N hM2 hN => ?_)
  rotate_left
  · exact runX_pan hC (fun _ h => h) ⟨Mem.le_trans hM1 hM2, by rw [ht]; exact ⟨rfl, _, panN hN⟩⟩
  repeat (first | refine yy ?_ | refine yx fun _ => ?_)
  obtain ⟨L9, hL9, hB9⟩ := hB2.drop
  refine run_endX hro ?_
  refine runX_ret hC (rs := []) rfl (vs := []) trivial (hL9 _) ⟨Mem.le_trans hM1 hM2, ?_⟩
  rw [ht]
  refine ⟨rfl, ?_⟩
  simpa using hB9
set_option maxHeartbeats 8000000 in
theorem vexport_ok (M : Mem) (L R : HL) (hG : G38 M) (bv : Nat) (l : List UInt8) (S : SStr) (hS : StOk M S) (ax : Ax) (hf : FitA M ax) (h : VoAt bv S.v l R L) (hz : l.length + 1000000000 < 1099511627776) (hnz : ∀ x ∈ S.xs, x.size < 1000000) :
    TrE Tryz.prog 75 [pt bv, .agg ⟨axC ax⟩] M L (vK bv S.v l R M (aft vShows (txnV S.xs ax.txn))) := by
  refine TrE.intro 11 Tryz.func75 rfl rfl Tryz.call75 rfl ?_; intro C hC hro
  refine run_seq ?_
  refine run_region ?_
  refine yx fun b3 => ?_
  refine runL_nil ?_
  have hB0 : VoAt bv S.v l (acB b3 ax :: R) (acB b3 ax :: L) := h.cons _
  have hm0 := hB0.memR List.mem_cons_self
  repeat (first | refine yy ?_ | refine yx fun _ => ?_)
  refine oc (say1_ok _ _ _ bv _ _ _ vShows hB0 (by have : vShows.size ≤ 30 := (by decide); omega)) ?_
  rintro _ M1 L1 ⟨hM1, hB1⟩
  have hm1 := hB1.memR List.mem_cons_self
  repeat (first | refine yy ?_ | refine yx fun _ => ?_)
  refine vR (vtxn_ok _ _ _ (hG.le hM1) bv _ S (hS.le hM1) ax.txn hf.tx.1 hf.tx.2.1 hf.tx.2.2 hB1 (fun x hx => by
    have := hnz x hx
    have : vShows.size ≤ 30 := by decide
    rw [List.length_append, ba_len]; omega)) (fun t M2 L2 ht hM2 hB2 => ?_) (fun ht M2 L2 N hM2 hN => ?_)
  rotate_left
  · exact runX_pan hC (fun _ h => h) ⟨Mem.le_trans hM1 hM2, by rw [ht]; exact ⟨rfl, _, panN hN⟩⟩
  repeat (first | refine yy ?_ | refine yx fun _ => ?_)
  obtain ⟨L9, hL9, hB9⟩ := hB2.drop
  refine run_endX hro ?_
  refine runX_ret hC (rs := []) rfl (vs := []) trivial (hL9 _) ⟨Mem.le_trans hM1 hM2, ?_⟩
  rw [ht]
  refine ⟨rfl, ?_⟩
  simpa using hB9
set_option maxHeartbeats 8000000 in
theorem vsubmit_ok (M : Mem) (L R : HL) (hG : G38 M) (bv : Nat) (l : List UInt8) (S : SStr) (hS : StOk M S) (ax : Ax) (hf : FitA M ax) (h : VoAt bv S.v l R L) (hz : l.length + 1000000000 < 1099511627776) (hnz : ∀ x ∈ S.xs, x.size < 1000000) :
    TrE Tryz.prog 68 [pt bv, .agg ⟨axC ax⟩] M L (vK bv S.v l R M (aft (if ax.yes = true then vYes else vNo) (txnV S.xs ax.txn))) := by
  refine TrE.intro 16 Tryz.func68 rfl rfl Tryz.call68 rfl ?_; intro C hC hro
  refine run_seq ?_
  refine run_region ?_
  refine yx fun b3 => ?_
  refine runL_nil ?_
  have hB0 : VoAt bv S.v l (acB b3 ax :: R) (acB b3 ax :: L) := h.cons _
  have hm0 := hB0.memR List.mem_cons_self
  repeat (first | refine yy ?_ | refine yx fun _ => ?_)
  refine run_condI (fun σ' M' L' => M.le M' ∧ VoAt bv S.v (l ++ (if ax.yes = true then vYes else vNo).data.toList) (acB b3 ax :: R) L' ∧ σ' = [(3, pt b3), (0, pt bv)]) (t := ax.yes) rfl (fun hy hk => ?_) (fun hy hk => ?_) ?_
  · refine yy ?_
    refine yy ?_
    refine yx fun b6 => ?_
    refine oc (say1_ok _ _ _ bv _ _ _ vYes hB0 (by have : vYes.size ≤ 30 := (by decide); omega)) ?_
    rintro _ M1 L1 ⟨hM1, hB1⟩
    refine yy ?_
    exact run_sub' (hk _ _ _ ⟨hM1, by rw [hy]; exact hB1, rfl⟩) ⟨rfl, rfl, trivial⟩
  · refine yy ?_
    refine yy ?_
    refine yx fun b6 => ?_
    refine oc (say1_ok _ _ _ bv _ _ _ vNo hB0 (by have : vNo.size ≤ 30 := (by decide); omega)) ?_
    rintro _ M1 L1 ⟨hM1, hB1⟩
    refine yy ?_
    exact run_sub' (hk _ _ _ ⟨hM1, by rw [hy]; exact hB1, rfl⟩) ⟨rfl, rfl, trivial⟩
  rintro _ M1 L1 ⟨hM1, hB1, rfl⟩
  have hm1 := hB1.memR List.mem_cons_self
  have hv30 : (if ax.yes = true then vYes else vNo).size ≤ 30 := by
    split
    · decide
    · decide
  generalize (if ax.yes = true then vYes else vNo) = vy at *
  repeat (first | refine yy ?_ | refine yx fun _ => ?_)
  refine vR (vtxn_ok _ _ _ (hG.le hM1) bv _ S (hS.le hM1) ax.txn hf.tx.1 hf.tx.2.1 hf.tx.2.2 hB1 (fun x hx => by
    have := hnz x hx
    rw [List.length_append, ba_len]; omega)) (fun t M2 L2 ht hM2 hB2 => ?_) (fun ht M2 L2 N hM2 hN => ?_)
  rotate_left
  · exact runX_pan hC (fun _ h => h) ⟨Mem.le_trans hM1 hM2, by rw [ht]; exact ⟨rfl, _, panN hN⟩⟩
  repeat (first | refine yy ?_ | refine yx fun _ => ?_)
  obtain ⟨L9, hL9, hB9⟩ := hB2.drop
  refine run_endX hro ?_
  refine runX_ret hC (rs := []) rfl (vs := []) trivial (hL9 _) ⟨Mem.le_trans hM1 hM2, ?_⟩
  rw [ht]
  refine ⟨rfl, ?_⟩
  simpa using hB9
theorem givesV_sz {names : List ByteArray} (hn : ∀ x ∈ names, x.size < 1000000) : ∀ {l : List Mb} {f : Bool} {t : ByteArray}, (∀ m ∈ l, m.digest.size < 1000000) → givesV names f l = some t → t.size ≤ 3000000 * l.length
  | [], f, t, _, h => by cases h; exact Nat.zero_le _
  | m :: l, f, t, hd, h => by
    rw [givesV] at h
    obtain ⟨o, ho, h⟩ := Option.bind_eq_some_iff.1 h
    obtain ⟨u, hu, h⟩ := Option.bind_eq_some_iff.1 h
    obtain ⟨b, hb, h⟩ := Option.bind_eq_some_iff.1 h
    cases h
    have h1 := hn o (List.mem_of_getElem? ho)
    have h2 := termV_sz (hd m List.mem_cons_self) hu
    have h3 := givesV_sz hn (fun y hy => hd y (List.mem_cons_of_mem _ hy)) hb
    have h4 : sp1.size = 1 := rfl
    have h5 : (if f = true then colB else semB).size = 2 := by split <;> rfl
    rw [app_size, app_size, app_size, app_size, List.length_cons]; omega
set_option maxHeartbeats 16000000 in
theorem vbegin_ok (M : Mem) (L R : HL) (bv : Nat) (l : List UInt8) (S : SStr) (hS : StOk M S) (ax : Ax) (hf : FitA M ax) (h : VoAt bv S.v l R L) (hz : l.length + 1000000000 < 1099511627776) (hnz : ∀ x ∈ S.xs, x.size < 1000000) :
    TrE Tryz.prog 67 [pt bv, .agg ⟨axC ax⟩] M L (vK bv S.v l R M (begV S.xs ax.aa)) := by
  obtain ⟨R0, hR⟩ : ∃ R, begV S.xs ax.aa = R := ⟨_, rfl⟩
  rw [hR]
  rw [begV] at hR
  have hg := hf.ok.gives
  have hlen := hg.len
  have hg6 := hf.gives.1
  refine TrE.intro 41 Tryz.func67 rfl rfl Tryz.call67 rfl ?_; intro C hC hro
  refine run_seq ?_
  refine run_region ?_
  refine yx fun b3 => ?_
  refine runL_nil ?_
  have hB0 : VoAt bv S.v l (acB b3 ax :: R) (acB b3 ax :: L) := h.cons _
  repeat (first | refine yy ?_ | refine yx fun _ => ?_)
  refine oc (say1_ok _ _ _ bv _ _ _ vBegins hB0 (by have : vBegins.size ≤ 30 := (by decide); omega)) ?_
  rintro _ M1 L1 ⟨hM1, hB1⟩
  have hm1 := hB1.memR List.mem_cons_self
  have hbz : vBegins.size ≤ 30 := by decide
  repeat (first | refine yy ?_ | refine yx fun _ => ?_)
  refine runL_as 11 (iv ax.auditor.toNat) rfl (by congr 1; exact (Int.toNat_of_nonneg hf.aud.1).symm) ?_
  refine vR (vorg_ok _ _ _ bv _ S (hS.le hM1) ax.auditor.toNat hB1 (fun x hx => by have := hnz x hx; rw [List.length_append, ba_len]; omega)) (fun o M2 L2 ho hM2 hB2 => ?_) (fun ho M2 L2 N hM2 hN => ?_)
  rotate_left
  · have ho' : orgV S.xs ax.aa.auditor.toNat = none := ho
    rw [ho'] at hR
    exact runX_pan hC (fun _ h => h) ⟨Mem.le_trans hM1 hM2, by rw [← hR]; exact ⟨rfl, _, panN hN⟩⟩
  have ho' : orgV S.xs ax.aa.auditor.toNat = some o := ho
  rw [ho', Option.bind_some] at hR
  have hoz := hnz o (List.mem_of_getElem? ho)
  have hM12 := Mem.le_trans hM1 hM2
  have hm2 := hB2.memR List.mem_cons_self
  have hgs : ax.aa.gives = ax.gives.xs := rfl
  rw [hgs] at hR
  repeat (first | refine yy ?_ | refine yx fun _ => ?_)
  refine run_loopN (fun j σ1 M3 L3 => j ≤ ax.gives.len ∧ M.le M3 ∧ (∃ t, VoAt bv S.v (l ++ t.data.toList) (acB b3 ax :: R) L3 ∧ t.size ≤ 1000100 + 3000000 * j ∧ R0 = aft t (givesV S.xs (decide (j = 0)) (ax.gives.xs.drop j))) ∧ σ1 = [(16, iv j), (15, iv ax.gives.len), (14, ax.gives.v), (3, pt b3), (0, pt bv)]) ax.gives.len [(16, iv 0), (15, iv ax.gives.len), (14, ax.gives.v), (3, pt b3), (0, pt bv)] ?_ ⟨Nat.zero_le _, hM12, ⟨vBegins ++ o, by simpa using hB2, by rw [app_size]; omega, hR.symm⟩, rfl⟩ (fun j _ _ _ h => h.1) ?_
  · exact ⟨rfl, rfl, rfl, rfl, rfl, trivial⟩
  clear hB2 hm2 hR
  rintro j _ M3 L3 ⟨hj, hM3, ⟨t, hB3, htz, hR⟩, rfl⟩ hnext
  repeat (first | refine yy ?_ | refine yx fun _ => ?_)
  refine run_cond (t := decide ((j : Int) < (ax.gives.len : Int))) rfl (fun h2 => ?_) (fun h2 => ?_)
  rotate_left
  · have hge : j = ax.gives.len := by have := of_decide_eq_false h2; omega
    rw [hge, List.drop_of_length_le (by omega), givesV, aft, Option.map_some, app_nil] at hR
    repeat (first | refine yy ?_ | refine yx fun _ => ?_)
    obtain ⟨L9, hL9, hB9⟩ := hB3.drop
    refine run_endX hro ?_
    exact runX_ret hC (rs := []) rfl (vs := []) trivial (hL9 _) ⟨hM3, by rw [hR]; exact ⟨rfl, hB9⟩⟩
  have hlt : j < ax.gives.len := by have := of_decide_eq_true h2; omega
  obtain ⟨b, off, m, hma, hm, hc⟩ := SMb.at_ (hg.le hM3).1 hlt
  have hv : ax.gives.v = .slice (some ⟨b, off, none⟩) ax.gives.len ax.gives.cap := by rw [← hma]; rfl
  have hmf := hf.gives.2 m (List.mem_of_getElem? hm)
  have hlx : j < ax.gives.xs.length := (List.getElem?_eq_some_iff.1 hm).1
  rw [List.drop_eq_getElem_cons hlx, (List.getElem?_eq_some_iff.1 hm).2, givesV] at hR
  refine run_as 14 (.slice (some ⟨b, off, none⟩) ax.gives.len ax.gives.cap) rfl hv ?_
  have hmin : (if (1 : Int) < (j : Int) then (1 : Int) else (j : Int)) = ((if j = 0 then 0 else 1 : Nat) : Int) := by
    repeat' split
    all_goals first | omega | rfl
  obtain ⟨sg, hsg⟩ : ∃ sg, (if decide (j = 0) = true then colB else semB) = sg := ⟨_, rfl⟩
  have hld : ∀ b0, ldE tt 9 (flatParts [(0, Value.string ⟨#[58, 32]⟩), (1, Value.string ⟨#[59, 32]⟩)]) (0 + (if j = 0 then 0 else 1) * b0) = some (.string sg) ∨ b0 ≠ 1 := fun b0 => by
    by_cases hb : b0 = 1
    · subst hb
      left
      rw [← hsg]
      by_cases h0 : j = 0
      · rw [if_pos h0, if_pos (by simpa using h0)]; rfl
      · rw [if_neg h0, if_neg (by simpa using h0)]; rfl
    · exact .inr hb
  have hld := (hld 1).resolve_right (fun h => h rfl)
  have hsz2 : sg.size = 2 := by rw [← hsg]; split <;> rfl
  have hk2 : (if j = 0 then 0 else 1) < 2 := by split <;> omega
  rw [hsg] at hR
  generalize hkk : (if j = 0 then 0 else 1) = kk at hmin hld hk2
  repeat (first | refine yy ?_ | refine yx fun _ => ?_ | refine vq ?_ (qt_min2 rfl rfl))
  rename_i b5 b6
  have hB3' := hB3.cons (b5, .cells ⟨mbC m⟩ 57 (0, 0))
  refine runL_as 24 (iv kk) rfl (congrArg (Value.int .i64) hmin) ?_
  refine vq ?_
  refine vq ?_ (qt_ld tok rfl List.mem_cons_self hld)
  refine yx fun b7 => ?_
  refine runL_mem (fun _ h => (h.perm (List.Perm.swap _ _ _)).drop) ?_
  refine oc (say1_ok _ _ _ bv _ _ _ sg hB3' (by rw [List.length_append, ba_len]; omega)) ?_
  rintro _ M4 L4 ⟨hM4, hB4⟩
  have hm4 := hB4.memR List.mem_cons_self
  repeat (first | refine yy ?_ | refine yx fun _ => ?_)
  refine runL_as 31 (iv m.org.toNat) rfl (by congr 1; exact (Int.toNat_of_nonneg hmf.1).symm) ?_
  refine vR (vorg_ok _ _ _ bv _ S (hS.le (Mem.le_trans hM3 hM4)) m.org.toNat hB4 (fun x hx => by have := hnz x hx; simp only [List.length_append, ba_len]; omega)) (fun u M5 L5 hu hM5 hB5 => ?_) (fun hu M5 L5 N hM5 hN => ?_)
  rotate_left
  · rw [hu] at hR
    exact runX_pan hC (fun _ h => h) ⟨Mem.le_trans hM3 (Mem.le_trans hM4 hM5), by rw [hR]; exact ⟨rfl, _, panN (panN hN)⟩⟩
  rw [hu, Option.bind_some] at hR
  have huz := hnz u (List.mem_of_getElem? hu)
  repeat (first | refine yy ?_ | refine yx fun _ => ?_)
  refine oc (say1_ok _ _ _ bv _ _ _ sp1 hB5 (by have : sp1.size = 1 := rfl; simp only [List.length_append, ba_len]; omega)) ?_
  rintro _ M6 L6 ⟨hM6, hB6⟩
  have hM36 := Mem.le_trans hM3 (Mem.le_trans hM4 (Mem.le_trans hM5 hM6))
  have hm6 := hB6.memR List.mem_cons_self
  have h1s : sp1.size = 1 := rfl
  repeat (first | refine yy ?_ | refine yx fun _ => ?_)
  refine vR (vterm_ok _ _ _ bv _ _ m.digest hmf.2.2 hB6 (by simp only [List.length_append, ba_len]; omega)) (fun w M7 L7 hw hM7 hB7 => ?_) (fun hw M7 L7 N hM7 hN => ?_)
  rotate_left
  · rw [hw] at hR
    exact runX_pan hC (fun _ h => h) ⟨Mem.le_trans hM36 hM7, by rw [hR]; exact ⟨rfl, _, panN (panN hN)⟩⟩
  rw [hw, Option.bind_some, aft_bind] at hR
  have hwz := termV_sz hmf.2.2 hw
  obtain ⟨L8, hL8, hB8⟩ := hB7.drop
  repeat (first | refine yy ?_ | refine yx fun _ => ?_)
  refine run_mem (hL8 _) (run_sub' (hnext _ _ _ ⟨hlt, Mem.le_trans hM36 hM7, ⟨_, ?_, ?_, hR⟩, rfl⟩) ⟨lk_succ rfl (by omega), rfl, by rw [hv]; rfl, rfl, rfl, trivial⟩)
  · simpa using hB8
  · simp only [app_size]; omega
end Go.Proofs.YtladcmfbkiogbaaGreatDoor
namespace Go.Proofs.YtladcmfbkiogbaaGreatDoor
open Go.Chi Go.Lib
set_option maxRecDepth 10000
theorem vString1_ok (M : Mem) (R N : HL) (b : Nat) (nv p v : Value) (l : List UInt8) (hO : BdF v l N) (h0 : l ≠ []) (hz : l.length < 1099511627776) :
    Tr Tryz.prog 36 [pt1 b] M ((b, voO nv p v) :: (N ++ R)) (fun w M' L1 => M = M' ∧ w = .string ⟨l.toArray⟩ ∧ ∃ N', L1 = (b, voO nv p v) :: (N' ++ R)) := by
  obtain ⟨b2, cap, cs, fz, rfl, rfl, h1, h2⟩ := hO
  have hl0 : l.length ≠ 0 := fun h => h0 (List.length_eq_zero_iff.1 h)
  refine Tr.intro 14 Tryz.func36 rfl rfl Tryz.call36 rfl ?_; intro C hC hro
  repeat (first | refine zz ?_ | refine zx fun _ => ?_ | refine dd ?_ | refine dz ?_ | refine dx fun _ => ?_ | refine pq rfl (qt_sliceData rfl (by omega)) ?_ | (refine pe rfl (st_unsafeString tok rfl rfl rfl rfl rfl hl0 (by omega) h2 (Upd.there _ (Upd.here _ _ _ _))) ?_; rintro _ _ _ ⟨rfl, rfl, rfl⟩))
  exact run_ret hC (rs := [.tmp 2]) rfl (resT rfl resN) (fun _ h => h) ⟨rfl, rfl, [_], rfl⟩
theorem vStr_ok (M : Mem) (L R : HL) (b : Nat) (nv : Value) (s : ByteArray) (h : VoAt b nv s.data.toList R L) (h0 : 1 ≤ s.size) (hz : s.size < 1099511627776) :
    Tr Tryz.prog 36 [pt1 b] M L (fun w M' L' => M = M' ∧ w = .string s ∧ ∃ N, L'.Perm (N ++ R)) := by
  have hl := ba_len s
  obtain ⟨p, v, N, hp, hL, hO⟩ := h
  have hne : s.data.toList ≠ [] := fun h => by rw [h] at hl; simp at hl; omega
  refine Tr.perm (vString1_ok M R N b nv p v _ (hO.f hne) hne (by omega)) (hL.trans List.perm_middle) ?_
  rintro w M' _ ⟨rfl, rfl, N', rfl⟩
  exact ⟨_, List.Perm.refl _, rfl, rfl, (b, voO nv p v) :: N', List.Perm.refl _⟩
def fnV (f : FuncId) : Value := .func (.func f) ⟨[]⟩ ⟨[]⟩
def vbK : KV Int := [(1, fnV 67, 0), (2, fnV 68, 1), (3, fnV 69, 2), (8, fnV 70, 3), (6, fnV 71, 4), (7, fnV 72, 5), (5, fnV 73, 6), (10, fnV 74, 7), (9, fnV 75, 8)]
def kV8 (n : Int) : Value := .int .u8 n
theorem keyV8 : KeyLaw Tryz.prog 5 kV8 := keyInt tok rfl
abbrev vbB (b : Nat) : Nat × Obj := (b, .map ⟨ents kV8 vbK⟩ 9)
theorem verbs_ok (M : Mem) (L : HL) : Tr Tryz.prog 32 [] M L (fun v M' L' => M = M' ∧ ∃ b, v = .map (some b) ∧ L' = vbB b :: L) := by
  refine Tr.intro 3 Tryz.func32 rfl rfl Tryz.call32 rfl ?_; intro C hC hro
  repeat (first | refine yy ?_ | refine yx fun _ => ?_ | (refine runL_op (st_makeMapE kV8) rfl rfl rfl ?_; rintro _ _ _ ⟨bm, rfl, rfl, rfl⟩) | (refine runL_op0 (st_mapUpdate tok keyV8 (.inr rfl) rfl rfl rfl rfl rfl (by (repeat (first | with_reducible apply Upd.here | with_reducible apply Upd.there | with_reducible apply Upd.append_left)))) ?_; rintro _ _ _ ⟨rfl, rfl, rfl⟩))
  exact run_ret hC (rs := [.tmp 0]) rfl (resT rfl resN) (fun _ h => h) ⟨rfl, _, rfl, rfl⟩
theorem verb_at {d : Int} (h1 : 1 ≤ d) (h10 : d ≤ 10) (h4 : d ≠ 4) {M : Mem} {ax : Ax} (hd : ax.do_ = d) {S : SStr} :
    ∃ f, kvGet vbK d = some (fnV f) ∧ (FitA M ax → StOk M S → G38 M → (∀ x ∈ S.xs, x.size < 1000000) → ∀ (L R : HL) (bv : Nat) (l : List UInt8), VoAt bv S.v l R L → l.length + 1000000000 < 1099511627776 → TrE Tryz.prog f [pt bv, .agg ⟨axC ax⟩] M L (vK bv S.v l R M (verbV S.xs ax.aa))) := by
  have hv : ∀ o, verbV S.xs ax.aa = o → ax.aa.do_ = d := fun _ _ => hd
  have hdd : ax.aa.do_ = d := hd
  have : d = 1 ∨ d = 2 ∨ d = 3 ∨ d = 5 ∨ d = 6 ∨ d = 7 ∨ d = 8 ∨ d = 9 ∨ d = 10 := by omega
  rcases this with rfl | rfl | rfl | rfl | rfl | rfl | rfl | rfl | rfl
  · exact ⟨_, rfl, fun hf hS hG hn L R bv l h hz => by rw [verbV, hdd]; exact vbegin_ok M L R bv l S hS ax hf h hz hn⟩
  · exact ⟨_, rfl, fun hf hS hG hn L R bv l h hz => by rw [verbV, hdd]; exact vsubmit_ok M L R hG bv l S hS ax hf h hz hn⟩
  · exact ⟨_, rfl, fun hf hS hG hn L R bv l h hz => by rw [verbV, hdd]; exact vtick_ok M L R hG bv l S hS ax hf h hz hn⟩
  · exact ⟨_, rfl, fun hf hS hG hn L R bv l h hz => by rw [verbV, hdd]; exact vinject_ok M L R hG bv l S hS ax hf h hz hn⟩
  · exact ⟨_, rfl, fun hf hS hG hn L R bv l h hz => by rw [verbV, hdd]; exact varm_ok M L R hG bv l S hS ax hf h hz hn⟩
  · exact ⟨_, rfl, fun hf hS hG hn L R bv l h hz => by rw [verbV, hdd]; exact vcrash_ok M L R hG bv l S hS ax hf h hz hn⟩
  · exact ⟨_, rfl, fun hf hS hG hn L R bv l h hz => by rw [verbV, hdd]; exact vanew_ok M L R hG bv l S hS ax hf h hz hn⟩
  · exact ⟨_, rfl, fun hf hS hG hn L R bv l h hz => by rw [verbV, hdd]; exact vexport_ok M L R hG bv l S hS ax hf h hz hn⟩
  · exact ⟨_, rfl, fun hf hS hG hn L R bv l h hz => by rw [verbV, hdd]; exact vpresent_ok M L R hG bv l S hS ax hf h hz hn⟩
theorem rIn {n : Int} (h : orgW n = true) : 0 ≤ n ∧ n ≤ 7 := by simp [orgW] at h; omega
theorem nIn {n : Int} (h : nmW n = true) : 0 ≤ n ∧ n ≤ 2147483647 := by simp [nmW] at h; omega
structure FitP (a : Aa) : Prop where
  do_ : 1 ≤ a.do_ ∧ a.do_ ≤ 10
  org : 0 ≤ a.org ∧ a.org ≤ 7
  aud : 0 ≤ a.auditor ∧ a.auditor ≤ 7
  n : 0 ≤ a.n ∧ a.n ≤ 2147483647
  tx : 0 ≤ a.txn.coord ∧ (0 ≤ a.txn.epoch ∧ a.txn.epoch ≤ 9223372036854775807) ∧ (0 ≤ a.txn.seq ∧ a.txn.seq ≤ 9223372036854775807)
  gives : a.gives.length ≤ 6 ∧ ∀ m ∈ a.gives, GvP m
  steps : a.steps.length ≤ 64 ∧ ∀ x ∈ a.steps, SpP x
theorem txIn {t : Tx} (h : mayTx t = true) : 0 ≤ t.coord ∧ (0 ≤ t.epoch ∧ t.epoch ≤ 9223372036854775807) ∧ (0 ≤ t.seq ∧ t.seq ≤ 9223372036854775807) := by
  simp only [mayTx, orgW, Bool.and_eq_true, decide_eq_true_eq] at h
  omega
theorem tz_in : 0 ≤ tz.coord ∧ (0 ≤ tz.epoch ∧ tz.epoch ≤ 9223372036854775807) ∧ (0 ≤ tz.seq ∧ tz.seq ≤ 9223372036854775807) := by decide
theorem AcP.fit {a : Aa} (h : AcP a) : FitP a := by
  have hg0 : ([] : List Mb).length ≤ 6 ∧ ∀ m ∈ ([] : List Mb), GvP m := ⟨by decide, fun _ h => by cases h⟩
  have hs0 : ([] : List Sp).length ≤ 64 ∧ ∀ x ∈ ([] : List Sp), SpP x := ⟨by decide, fun _ h => by cases h⟩
  have h07 : (0 : Int) ≤ 0 ∧ (0 : Int) ≤ 7 := by decide
  have h0n : (0 : Int) ≤ 0 ∧ (0 : Int) ≤ 2147483647 := by decide
  cases h with
  | begin_ o au g h1 h2 h3 h4 => exact ⟨by simp, rIn h1, rIn h2, h0n, tz_in, ⟨h3, h4⟩, hs0⟩
  | submit o t y h1 h2 => exact ⟨by simp, rIn h1, h07, h0n, txIn h2, hg0, hs0⟩
  | tick o h1 => exact ⟨by simp, rIn h1, h07, h0n, tz_in, hg0, hs0⟩
  | deliver n h1 => exact ⟨by simp, h07, h07, nIn h1, tz_in, hg0, hs0⟩
  | inject o l h1 h2 h3 => exact ⟨by simp, rIn h1, h07, h0n, tz_in, hg0, ⟨h2, h3⟩⟩
  | arm o n h1 h2 => exact ⟨by simp, rIn h1, h07, nIn h2, tz_in, hg0, hs0⟩
  | crash o n h1 h2 => exact ⟨by simp, rIn h1, h07, nIn h2, tz_in, hg0, hs0⟩
  | restart o h1 => exact ⟨by simp, rIn h1, h07, h0n, tz_in, hg0, hs0⟩
  | exprt o t h1 h2 => exact ⟨by simp, rIn h1, h07, h0n, txIn h2, hg0, hs0⟩
  | present o l h1 h2 h3 => exact ⟨by simp, rIn h1, h07, h0n, tz_in, hg0, ⟨h2, h3⟩⟩
theorem FitP.at_ {M : Mem} {ax : Ax} (h : FitP ax.aa) (hok : AxOk M ax) : FitA M ax where
  ok := hok
  org := h.org
  aud := h.aud
  n := h.n
  tx := h.tx
  gives := ⟨h.gives.1, fun m hm => by
    obtain ⟨h1, h2⟩ := h.gives.2 m hm
    have hsz := hok.pay m hm
    have := ((mayB_iff (by omega)).1 (by rw [mayB, h2]; rfl : mayB m.digest = true)).2
    exact ⟨(rIn h1).1, (rIn h1).2, by omega⟩⟩
  steps := ⟨by have := h.steps.1; simpa [Ax.aa] using this, h.steps.2⟩
def lineV (names : List ByteArray) (a : Aa) : Option ByteArray := if a.do_ = 4 then some ((wPost ++ dgB a.n) ++ wComes) else (orgV names a.org.toNat).bind fun o => aft o (verbV names a)
def lineA (names : List ByteArray) (a : Aa) : ByteArray × Int :=
  if rollB names = true ∧ chkS a = 0 then match lineV names a with
    | some t => (t, 0)
    | none => (⟨#[]⟩, 2)
  else (⟨#[]⟩, 2)
theorem aft_pos {t u : ByteArray} {o : Option ByteArray} (h : aft t o = some u) (ht : 1 ≤ t.size) : 1 ≤ u.size := by
  obtain ⟨w, _, rfl⟩ := Option.map_eq_some_iff.1 h
  rw [app_size]; omega
theorem verbV_pos {names : List ByteArray} {a : Aa} {t : ByteArray} (h : verbV names a = some t) : 1 ≤ t.size := by
  unfold verbV at h
  split at h
  · rw [begV] at h
    obtain ⟨o, _, h⟩ := Option.bind_eq_some_iff.1 h
    exact aft_pos h (by rw [app_size]; have : vBegins.size = 12 := rfl; omega)
  split at h
  · exact aft_pos h (by split <;> decide)
  split at h
  · cases h; decide
  split at h
  · cases h; decide
  split at h
  · cases h; rw [app_size]; have : vStops.size = 14 := rfl; omega
  split at h
  · cases h; rw [app_size]; have : vCrash.size = 19 := rfl; omega
  split at h
  · exact aft_pos h (by decide)
  split at h
  · exact aft_pos h (by decide)
  · exact aft_pos h (by decide)
theorem txnV_sz {names : List ByteArray} (hn : ∀ x ∈ names, x.size < 1000000) {t : Tx} (h1 : t.epoch ≤ 9223372036854775807) (h2 : t.seq ≤ 9223372036854775807) {u : ByteArray} (h : txnV names t = some u) : u.size ≤ 1000100 := by
  obtain ⟨o, ho, rfl⟩ := Option.map_eq_some_iff.1 h
  have := hn o (List.mem_of_getElem? ho)
  have := dgB_sz h1
  have := dgB_sz h2
  have : slB.size = 1 := rfl
  simp only [app_size]; omega
theorem aft_sz {t u : ByteArray} {o : Option ByteArray} {k : Nat} (h : aft t o = some u) (ho : ∀ w, o = some w → w.size ≤ k) : u.size ≤ t.size + k := by
  obtain ⟨w, hw, rfl⟩ := Option.map_eq_some_iff.1 h
  have := ho w hw
  rw [app_size]; omega
theorem verbV_sz {names : List ByteArray} (hn : ∀ x ∈ names, x.size < 1000000) {a : Aa} (hf : FitP a) (hd : ∀ m ∈ a.gives, m.digest.size < 1000000) {t : ByteArray} (h : verbV names a = some t) : t.size ≤ 100000000 := by
  have hst : ∀ w, stepsV a.steps = some w → w.size ≤ 90000000 := fun w hw => stepsV_sz hf.steps.1 hf.steps.2 hw
  have htx : ∀ w, txnV names a.txn = some w → w.size ≤ 1000100 := fun w hw => txnV_sz hn hf.tx.2.1.2 hf.tx.2.2.2 hw
  have hdn := dgB_sz (n := a.n) (by have := hf.n.2; omega)
  unfold verbV at h
  split at h
  · rw [begV] at h
    obtain ⟨o, ho, h⟩ := Option.bind_eq_some_iff.1 h
    have := aft_sz h (fun w hw => givesV_sz hn hd hw)
    have := hn o (List.mem_of_getElem? ho)
    have : vBegins.size = 12 := rfl
    have := hf.gives.1
    rw [app_size] at *; omega
  split at h
  · have := aft_sz h htx
    have : (if a.yes = true then vYes else vNo).size ≤ 30 := by split <;> decide
    omega
  split at h
  · cases h; decide
  split at h
  · cases h; decide
  split at h
  · cases h; rw [app_size]; have : vStops.size = 14 := rfl; omega
  split at h
  · cases h; rw [app_size]; have : vCrash.size = 19 := rfl; omega
  split at h
  · have := aft_sz h hst; have : vGets.size = 6 := rfl; omega
  split at h
  · have := aft_sz h hst; have : vJudges.size = 8 := rfl; omega
  · have := aft_sz h htx; have : vShows.size = 7 := rfl; omega
end Go.Proofs.YtladcmfbkiogbaaGreatDoor
namespace Go.Proofs.YtladcmfbkiogbaaGreatDoor
open Go.Chi Go.Lib
set_option maxRecDepth 10000
theorem lineV_sz {names : List ByteArray} (hn : ∀ x ∈ names, x.size < 1000000) {a : Aa} (hf : FitP a) (hd : ∀ m ∈ a.gives, m.digest.size < 1000000) {t : ByteArray} (h : lineV names a = some t) : 1 ≤ t.size ∧ t.size ≤ 110000000 := by
  unfold lineV at h
  split at h
  · cases h
    have h1 := dgB_sz (n := a.n) (by have := hf.n.2; omega)
    have h2 : wPost.size = 5 := rfl
    have h3 : wComes.size = 6 := rfl
    rw [app_size, app_size]; omega
  · obtain ⟨o, ho, h⟩ := Option.bind_eq_some_iff.1 h
    obtain ⟨w, hw, rfl⟩ := Option.map_eq_some_iff.1 h
    have h1 := hn o (List.mem_of_getElem? ho)
    have h2 := verbV_pos hw
    have h3 := verbV_sz hn hf hd hw
    rw [app_size]; omega
abbrev stB (b : Nat) (t : ByteArray) : Nat × Obj := (b, .cells ⟨[.string t]⟩ 9 (0, 0))
set_option maxHeartbeats 32000000 in
theorem tline_ok (M : Mem) (L : HL) (hG : G38 M) (S : SStr) (hS : StOk M S) (hcap : S.len ≤ S.cap) (hnz : ∀ x ∈ S.xs, x.size < 1000000) (ax : Ax) (hax : AxOk M ax) : TrQ Tryz.prog 11 [S.v, .agg ⟨axC ax⟩] M L (.tuple ⟨[.string (lineA S.xs ax.aa).1, .int .i64 (lineA S.xs ax.aa).2]⟩) := by
  refine TrE.tr (K := fun en M' L' => en = .returned (.tuple ⟨[.string (lineA S.xs ax.aa).1, .int .i64 (lineA S.xs ax.aa).2]⟩) ∧ M = M' ∧ L = L') ?_ (fun e M' L' ⟨h1, h2, h3⟩ => ⟨_, h1, rfl, h2.symm, h3.symm⟩)
  have hck := hax.chk
  have hroll := fun L => roll_ok M L S hS hcap hnz
  refine TrE.intro 47 Tryz.func11 rfl rfl Tryz.call11 rfl ?_; intro C hC hro
  refine run_seq ?_
  refine run_region ?_
  refine yx fun b3 => ?_
  refine yx fun b4 => ?_
  refine yx fun b5 => ?_
  refine runL_nil ?_
  by_cases hr : rollB S.xs = true
  rotate_left
  · have hla : lineA S.xs ax.aa = (⟨#[]⟩, 2) := by rw [lineA, if_neg (fun h => hr h.1)]
    rw [if_neg hr] at hroll
    repeat (first | refine zc ?_ | refine vq ?_)
    refine qc (hroll _) ?_
    repeat (first | refine yk ?_ | refine yx fun _ => ?_)
    refine run_cond rfl (fun _ => ?_) (fun h => by cases h)
    repeat (first | refine yy ?_ | refine yx fun _ => ?_)
    refine run_retX hro ?_
    exact runX_ret hC (rs := [.cell 4 9, .cell 5 29]) rfl (rl tok rfl (rl tok rfl resN)) (fun _ h => h.drop.drop.drop) ⟨by rw [hla]; rfl, rfl, rfl⟩
  rw [if_pos hr] at hroll
  by_cases hk : chkS ax.aa = 0
  rotate_left
  · have hla : lineA S.xs ax.aa = (⟨#[]⟩, 2) := by rw [lineA, if_neg (fun h => hk h.2)]
    have hk2 : chkA ax = 2 := (chkA_or ax).resolve_left (fun h => hk (by rw [← hck, h]))
    have hchk := fun L => scheck_ok M L ax hax
    rw [hk2] at hchk
    repeat (first | refine zc ?_ | refine vq ?_)
    refine qc (hroll _) ?_
    repeat (first | refine yk ?_ | refine yx fun _ => ?_)
    refine kc (hchk _) ?_
    repeat (first | refine yk ?_ | refine yx fun _ => ?_)
    refine run_cond rfl (fun _ => ?_) (fun h => by cases h)
    repeat (first | refine yy ?_ | refine yx fun _ => ?_)
    refine run_retX hro ?_
    exact runX_ret hC (rs := [.cell 4 9, .cell 5 29]) rfl (rl tok rfl (rl tok rfl resN)) (fun _ h => h.drop.drop.drop) ⟨by rw [hla]; rfl, rfl, rfl⟩
  have hk0 : chkA ax = 0 := by rw [hck, hk]
  have hchk := fun L => scheck_ok M L ax hax
  rw [hk0] at hchk
  have hac := (chkS_iff _).1 hk
  have hfp := hac.fit
  have hfa := hfp.at_ hax
  have hdz : ∀ m ∈ ax.aa.gives, m.digest.size < 1000000 := fun m hm => (hfa.gives.2 m hm).2.2
  obtain ⟨R, hR⟩ : ∃ R, lineV S.xs ax.aa = R := ⟨_, rfl⟩
  have hla0 : R = none → lineA S.xs ax.aa = (⟨#[]⟩, 2) := fun h => by rw [lineA, if_pos ⟨hr, hk⟩, hR.trans h]
  have hla1 : ∀ t, R = some t → lineA S.xs ax.aa = (t, 0) := fun t h => by rw [lineA, if_pos ⟨hr, hk⟩, hR.trans h]
  repeat (first | refine zc ?_ | refine vq ?_)
  refine qc (hroll _) ?_
  repeat (first | refine yk ?_ | refine yx fun _ => ?_)
  refine kc (hchk _) ?_
  repeat (first | refine yk ?_ | refine yx fun _ => ?_)
  refine run_cond rfl (fun h => by cases h) (fun _ => ?_)
  repeat (first | refine yy ?_ | refine yx fun _ => ?_)
  have hthrow : ∀ (M1 : Mem) (L1 N : HL), M.le M1 → L1.Perm (N ++ erN_ b5 0 :: stB b4 ⟨#[]⟩ :: acB b3 ax :: L) → R = none → RunX Tryz.prog C 47 (.panicking panT) [⟨.fn (.func 30) ⟨[pt b4, pt b5]⟩, #[]⟩] [(5, pt b5), (4, pt b4)] M1 L1 := by
    intro M1 L1 N hM1 hN hno
    refine runX_defer (args := [pt b4, pt b5]) 4 (by simp) Tryz.func30 rfl rfl Tryz.call30 rfl rfl ?_
    intro a0 k0 q1 q2 q3
    refine run_mem (fun _ h => (h.perm hN).dropAll) ?_
    refine run_seq ?_
    refine run_region ?_
    refine runL_recover rfl rfl rfl ?_
    refine qc (ucaught_ok _ _) ?_
    repeat (first | refine yy ?_ | refine yx fun _ => ?_)
    refine run_cond rfl (fun _ => ?_) (fun h => by cases h)
    repeat (first | refine yy ?_ | refine yx fun _ => ?_)
    refine run_endX rfl ?_
    refine runX_dret Tryz.func30 rfl q1 q2 q3 ?_
    show RunX _ _ _ .returning _ _ _ _
    exact runX_ret hC (rs := [.cell 4 9, .cell 5 29]) rfl (rl tok rfl (rl tok rfl resN)) (fun _ h => (h.drop.drop.drop).of_le hM1) ⟨by rw [hla0 hno]; rfl, rfl, rfl⟩
  refine runL_defer hro rfl rfl ?_
  repeat (first | refine yy ?_ | refine yx fun _ => ?_)
  rename_i bv
  have hB0 : VoAt bv S.v [] (erN_ b5 0 :: stB b4 ⟨#[]⟩ :: acB b3 ax :: L) ((bv, voO S.v (.pointer none) (.slice none 0 0)) :: erN_ b5 0 :: stB b4 ⟨#[]⟩ :: acB b3 ax :: L) := ⟨_, _, [], .inl rfl, List.Perm.refl _, bdS_nil⟩
  obtain ⟨z, hz⟩ : ∃ z, zeroT tt 71 = some z := ⟨_, rfl⟩
  obtain ⟨fv, hres, hfv⟩ : ∃ fv, lookRes true (kvGet vbK ax.do_) z = .tuple ⟨[fv, .bool (!decide (ax.do_ = 4))]⟩ ∧ (ax.do_ ≠ 4 → ∃ f, fv = fnV f ∧ ∀ (M : Mem), FitA M ax → StOk M S → G38 M → (∀ x ∈ S.xs, x.size < 1000000) → ∀ (L R : HL) (bv : Nat) (l : List UInt8), VoAt bv S.v l R L → l.length + 1000000000 < 1099511627776 → TrE Tryz.prog f [pt bv, .agg ⟨axC ax⟩] M L (vK bv S.v l R M (verbV S.xs ax.aa))) := by
    by_cases h4 : ax.do_ = 4
    · exact ⟨z, by rw [h4]; rfl, fun h => absurd h4 h⟩
    · obtain ⟨f, h1, _⟩ := verb_at (M := M) (S := S) hfp.do_.1 hfp.do_.2 h4 rfl
      have h1 : kvGet vbK ax.do_ = some (fnV f) := h1
      refine ⟨fnV f, by rw [h1, decide_eq_false h4]; rfl, fun _ => ⟨f, rfl, fun M' => ?_⟩⟩
      obtain ⟨f', h1', h2'⟩ := verb_at (M := M') (S := S) hfp.do_.1 hfp.do_.2 h4 (ax := ax) rfl
      have e := Option.some.inj (h1.symm.trans h1')
      injection e with e
      injection e with e
      subst e
      exact h2'
  refine dd ?_
  refine pr_q 1 (by decide +kernel) rfl (qt_pev tok rfl) rfl rfl rfl ?_
  refine pr_q 2 (by decide +kernel) rfl (ql tok rfl) rfl rfl rfl ?_
  refine pr_one 0 (by decide +kernel) (eff1 0 rfl (st_callF rfl (fun _ => verbs_ok _ _)) (by decide +kernel) rfl rfl rfl rfl ?_)
  rintro _ _ _ ⟨rfl, bm, rfl, rfl⟩
  refine ⟨by (repeat (first | exact trivial | refine And.intro (pend_q rfl rfl rfl (by first | refine qt_pev tok rfl | refine ql tok rfl | refine qt_indexN tok rfl rfl rfl rfl (fun hy => by first | assumption | omega | (have h0 := hy.1; simp at h0; omega)) | refine qt_index tok rfl rfl rfl rfl (fun _ => by decide) | refine qt_ldM tok rfl (by first | assumption | exact Cells.le (by assumption) (by assumption)) rfl | refine qt_ldM0 tok rfl (by first | assumption | exact Cells.le (by assumption) (by assumption)) rfl | refine qt_strIndex tok rfl rfl rfl (fun _ => by assumption) | refine qt_strIndex (n := 0) tok rfl rfl rfl (fun _ => by assumption) | refine qt_strLo tok rfl rfl rfl (fun hy => by first | assumption | omega | (have h0 := hy.1; simp at h0; omega)) | refine qt_strHi tok rfl rfl rfl (fun hy => by first | assumption | omega | (have h0 := hy.1; simp at h0; omega)) | refine qt_strMid tok rfl rfl rfl rfl (fun hy => by first | assumption | omega | (have h0 := hy.1; simp at h0; omega)) | refine qt_concat rfl rfl (by first | assumption | omega | (simp only [app_size] at *; omega)) | refine qt_shr rfl rfl (fun _ => by decide) | refine qt_makeIfaceC tok rfl rfl rfl | refine qt_assertC tok rfl rfl rfl | refine qt_assertCk tok rfl rfl rfl)) ?_)), ?_⟩
  refine pr_q 3 (by decide +kernel) rfl (hres ▸ qt_lookup tok keyV8 rfl rfl rfl (a := ax.do_) rfl (.inl List.mem_cons_self) hz) rfl rfl rfl ?_
  iterate 1 refine pr_q 4 (by decide +kernel) rfl (qt_pev tok rfl) rfl rfl rfl ?_
  refine pr_q 5 (by decide +kernel) rfl (qt_pev tok rfl) rfl rfl rfl ?_
  refine pr_q 6 (by decide +kernel) rfl (qt_pev tok rfl) rfl rfl rfl ?_
  refine pr_q 7 (by decide +kernel) rfl (qt_pev tok rfl) rfl rfl rfl ?_
  refine pr_q 8 (by decide +kernel) rfl (qt_pev tok rfl) rfl rfl rfl ?_
  refine pr_end (by decide +kernel) (by decide +kernel) ?_
  refine run_mem (fun _ h => h.drop) ?_
  have hm3 : acB b3 ax ∈ erN_ b5 0 :: stB b4 ⟨#[]⟩ :: acB b3 ax :: L := List.mem_cons_of_mem _ (List.mem_cons_of_mem _ List.mem_cons_self)
  obtain ⟨Rv, hRv⟩ : ∃ Rv, erN_ b5 0 :: stB b4 ⟨#[]⟩ :: acB b3 ax :: L = Rv := ⟨_, rfl⟩
  have hbeg : VoAt bv S.v (⟨#[]⟩ : ByteArray).data.toList Rv ((bv, voO S.v (.pointer none) (.slice none 0 0)) :: Rv) := by rw [← hRv]; exact hB0
  rw [hRv] at hm3
  refine run_mem (L' := (bv, voO S.v (.pointer none) (.slice none 0 0)) :: Rv) (fun _ h => by rw [← hRv]; exact h) ?_
  generalize (bv, voO S.v (.pointer none) (.slice none 0 0)) :: Rv = Lv at hbeg
  have hm3v := hbeg.memR hm3
  repeat (first | refine yy ?_ | refine yx fun _ => ?_)
  refine run_condI (fun σ' M' L' => ∃ t, R = some t ∧ M.le M' ∧ VoAt bv S.v t.data.toList Rv L' ∧ σ' = [(6, pt bv), (5, pt b5), (4, pt b4)]) (t := !decide (ax.do_ = 4)) rfl (fun h4 hk => ?_) (fun h4 hk => ?_) ?_
  · have hd4 : ax.do_ ≠ 4 := by simpa using h4
    obtain ⟨f, rfl, hf⟩ := hfv hd4
    rw [lineV, if_neg (show ¬ ax.aa.do_ = 4 from hd4)] at hR
    repeat (first | refine yy ?_ | refine yx fun _ => ?_)
    refine runL_as 31 (iv ax.org.toNat) rfl (by congr 1; exact (Int.toNat_of_nonneg hfp.org.1).symm) ?_
    refine vR (vorg_ok _ _ _ bv _ S hS ax.org.toNat hbeg (fun x hx => by have := hnz x hx; show 0 + _ < _; omega)) (fun o M1 L1 ho hM1 hB1 => ?_) (fun ho M1 L1 N hM1 hN => ?_)
    rotate_left
    · have ho' : orgV S.xs ax.aa.org.toNat = none := ho
      rw [ho'] at hR
      exact runX_sub (hthrow M1 L1 N hM1 (by rw [hRv]; exact hN) hR.symm) ⟨rfl, rfl, trivial⟩
    have ho' : orgV S.xs ax.aa.org.toNat = some o := ho
    rw [ho', Option.bind_some] at hR
    have hoz := hnz o (List.mem_of_getElem? ho)
    have hm1 := hB1.memR hm3
    repeat (first | refine yy ?_ | refine yx fun _ => ?_)
    refine runL_callVE rfl rfl (hf M1 (hfp.at_ (hax.le hM1)) (hS.le hM1) (hG.le hM1) hnz _ _ bv _ hB1 (by simp only [List.length_append, ba_len]; show 0 + _ + _ < _; omega)) rfl rfl rfl ?_ ?_
    rotate_left
    · rintro ch M2 L2 ⟨hM2, hv⟩
      split at hv
      · cases hv.1
      rename_i hvn
      obtain ⟨hv, N, hN⟩ := hv
      cases hv
      rw [hvn] at hR
      exact runX_sub (hthrow M2 L2 N (Mem.le_trans hM1 hM2) (by rw [hRv]; exact hN) hR.symm) ⟨rfl, rfl, trivial⟩
    rintro v M2 L2 ⟨hM2, hv⟩
    split at hv
    rotate_left
    · cases hv.1
    rename_i t hvn
    obtain ⟨hv, hB2⟩ := hv
    rw [hvn] at hR
    refine yy ?_
    exact run_sub' (hk _ _ _ ⟨o ++ t, hR.symm, Mem.le_trans hM1 hM2, by simpa using hB2, rfl⟩) ⟨rfl, rfl, rfl, trivial⟩
  · have hd4 : ax.do_ = 4 := by simpa using h4
    rw [lineV, if_pos (show ax.aa.do_ = 4 from hd4)] at hR
    have hi := itoa_ok M Lv ax.n.toNat (by have := hfp.n; show (Ax.n ax).toNat < _; have h2 : ax.n ≤ 2147483647 := hfp.n.2; omega) hG
    rw [Int.toNat_of_nonneg (show 0 ≤ ax.n from hfp.n.1)] at hi
    have hdn := dgB_sz (n := ax.n) (by have h2 : ax.n ≤ 2147483647 := hfp.n.2; omega)
    repeat (first | refine zc ?_ | refine vq ?_)
    refine qc hi ?_
    refine yx fun b7 => ?_
    refine oc (say_ok _ _ _ bv _ _ _ [wPost, dgB ax.n, wComes] _ 3 rfl rfl (by decide) hbeg (by have h1 : wPost.size = 5 := rfl; have h2 : wComes.size = 6 := rfl; simp only [cat, app_size]; rw [h1, h2]; show 0 + (_ + (_ + (_ + 0))) < _; omega)) ?_
    rintro _ M2 L2 ⟨hM2, hB2⟩
    refine yy ?_
    exact run_sub' (hk _ _ _ ⟨_, hR.symm, hM2, by simpa [cat, Ax.aa] using hB2, rfl⟩) ⟨rfl, rfl, rfl, trivial⟩
  rintro _ M1 L1 ⟨t, hRt, hM1, hB1, rfl⟩
  obtain ⟨ht1, ht2⟩ := lineV_sz hnz hfp hdz (hR.trans hRt)
  repeat (first | refine yy ?_ | refine yx fun _ => ?_)
  refine oc (vStr_ok _ _ _ bv _ t hB1 ht1 (by omega)) ?_
  rintro _ _ L2 ⟨rfl, rfl, N, hN⟩
  rw [← hRv] at hN
  refine runL_mem (fun _ h => (h.perm hN).dropAll) ?_
  have hle := hla1 t hRt
  repeat (first | refine yy ?_ | refine yx fun _ => ?_)
  refine run_retX hro ?_
  refine runX_sub (σ' := [(5, pt b5), (4, pt b4)]) ?_ ⟨rfl, rfl, trivial⟩
  refine runX_defer (args := [pt b4, pt b5]) 4 (by simp) Tryz.func30 rfl rfl Tryz.call30 rfl rfl ?_
  intro a0 k0 q1 q2 q3
  refine run_seq ?_
  refine run_region ?_
  refine runL_recover0 rfl rfl rfl ?_
  refine qc (ucaught0_ok _ _) ?_
  repeat (first | refine yy ?_ | refine yx fun _ => ?_)
  refine run_cond rfl (fun h => by cases h) (fun _ => ?_)
  repeat (first | refine yy ?_ | refine yx fun _ => ?_)
  refine run_endX rfl ?_
  refine runX_dret Tryz.func30 rfl q1 q2 q3 ?_
  show RunX _ _ _ .returning _ _ _ _
  exact runX_ret hC (rs := [.cell 4 9, .cell 5 29]) rfl (rl tok rfl (rl tok rfl resN)) (fun _ h => (h.drop.drop.drop).of_le hM1) ⟨by rw [hle]; rfl, rfl, rfl⟩
end Go.Proofs.YtladcmfbkiogbaaGreatDoor
namespace Go.Proofs.YtladcmfbkiogbaaGreatDoor
open Go.Chi Go.Lib Go.RowKit Go.Sort
set_option maxRecDepth 10000
def nlN (l : List UInt8) : Nat := (l.takeWhile fun b => b != 10).length
theorem index_nl : ∀ l : List UInt8, indexByte l 10 = if nlN l < l.length then ((nlN l : Nat) : Int) else -1
  | [] => rfl
  | b :: l => by
    have ih := index_nl l
    have hn : nlN (b :: l) = if b = 10 then 0 else nlN l + 1 := by
      unfold nlN
      rw [List.takeWhile_cons]
      by_cases h : b = 10 <;> simp [h]
    rw [indexByte, ih, hn, List.length_cons]
    by_cases h : b = 10
    · simp [h]
    · have hb : (b == 10) = false := by simpa using h
      simp only [hb, Bool.false_eq_true, if_false, h]
      by_cases h2 : nlN l < l.length
      · rw [if_pos h2, if_neg (by simp only [beq_iff_eq]; omega), if_pos (by omega)]; rfl
      · rw [if_neg h2, if_pos (by rfl), if_neg (by omega)]
def cutR (s : ByteArray) : ByteArray × ByteArray × Bool := if nlN s.data.toList < s.size then (s.extract 0 (nlN s.data.toList), s.extract (nlN s.data.toList + 1) s.size, true) else (s, ⟨#[]⟩, false)
theorem indexNl_ok (M : Mem) (L : HL) (s : ByteArray) : TrQ Tryz.prog 136 [.string s, .string ⟨#[10]⟩] M L (.int .i64 (if nlN s.data.toList < s.size then ((nlN s.data.toList : Nat) : Int) else -1)) :=
  trQ_calls (fun w => Tryz.call136 _ w) fun w _ => by
    refine (Tryz.stringslite_Index_one s 10 w).mono fun e w' => ?_
    rintro ⟨rfl, rfl⟩
    rw [index_nl, ba_len]
    exact ⟨rfl, Below.refl _ _⟩
theorem cut1_ok (M : Mem) (L : HL) (s : ByteArray) (hs : s.size < 1000000) : TrQ Tryz.prog 109 [.string s, .string ⟨#[10]⟩] M L (.tuple ⟨[.string (cutR s).1, .string (cutR s).2.1, .bool (cutR s).2.2]⟩) := by
  have hi := indexNl_ok M L s
  have h1 : (⟨#[10]⟩ : ByteArray).size = 1 := rfl
  refine Tr.intro 23 Tryz.func109 rfl rfl Tryz.call109 rfl ?_; intro C hC hro
  by_cases h : nlN s.data.toList < s.size
  · rw [if_pos h] at hi
    have hcr : cutR s = (s.extract 0 (nlN s.data.toList), s.extract (nlN s.data.toList + 1) s.size, true) := by rw [cutR, if_pos h]
    generalize nlN s.data.toList = k at hi hcr h
    repeat (first | refine zc ?_ | refine vq ?_)
    refine qc hi ?_
    repeat (first | refine yy ?_ | refine yx fun _ => ?_)
    refine run_cond (t := decide ((k : Int) ≥ 0)) rfl (fun _ => ?_) (fun h => by have := of_decide_eq_false h; omega)
    repeat (first | refine yy ?_ | refine dd ?_ | refine yd ?_ | refine yx fun _ => ?_)
    refine pr_as 20 (iv (k + 1)) rfl (congrArg (Value.int .i64) (wrap64_succ (by omega))) ?_
    repeat (first | refine yy ?_ | refine dd ?_ | refine yd ?_ | refine yx fun _ => ?_)
    exact run_ret hC (rs := [.tmp 4, .tmp 5, .tmp 6]) rfl (resT rfl (resT rfl (resT rfl resN))) (fun _ h => h) ⟨by rw [hcr]; rfl, rfl, rfl⟩
  · rw [if_neg h] at hi
    have hcr : cutR s = (s, ⟨#[]⟩, false) := by rw [cutR, if_neg h]
    repeat (first | refine zc ?_ | refine vq ?_)
    refine qc hi ?_
    repeat (first | refine yy ?_ | refine yx fun _ => ?_)
    refine run_cond rfl (fun h => by cases h) (fun _ => ?_)
    repeat (first | refine yy ?_ | refine yx fun _ => ?_)
    exact run_ret hC (rs := [.tmp 4, .tmp 5, .tmp 6]) rfl (resT rfl (resT rfl (resT rfl resN))) (fun _ h => h) ⟨by rw [hcr]; rfl, rfl, rfl⟩
theorem cutNl_ok (M : Mem) (L : HL) (s : ByteArray) (hs : s.size < 1000000) : TrQ Tryz.prog 61 [.string s, .string ⟨#[10]⟩] M L (.tuple ⟨[.string (cutR s).1, .string (cutR s).2.1, .bool (cutR s).2.2]⟩) := by
  refine Tr.intro 13 Tryz.func61 rfl rfl Tryz.call61 rfl ?_; intro C hC hro
  repeat (first | refine zc ?_ | refine vq ?_)
  refine qc (cut1_ok _ _ s hs) ?_
  repeat (first | refine yy ?_ | refine yx fun _ => ?_)
  exact run_ret hC (rs := [.tmp 4, .tmp 5, .tmp 6]) rfl (resT rfl (resT rfl (resT rfl resN))) (fun _ h => h) ⟨rfl, rfl, rfl⟩
end Go.Proofs.YtladcmfbkiogbaaGreatDoor
namespace Go.Proofs.YtladcmfbkiogbaaGreatDoor
open Go.Chi Go.Lib
set_option maxRecDepth 10000
def lnO (names : List ByteArray) : Nat → Nat → ByteArray → Nat ⊕ List Aa
  | 0, _, _ => .inr []
  | k + 1, n, s => if s = ⟨#[]⟩ then .inr [] else
    if (cutR s).2.2 = true ∧ (parseA names (cutR s).1).2 = 0 then match lnO names k (n + 1) (cutR s).2.1 with
      | .inl m => .inl m
      | .inr l => .inr ((parseA names (cutR s).1).1 :: l)
    else .inl n
def readA (names : List ByteArray) (s : ByteArray) : List Aa × Nat × Int :=
  if rollB names = true then if s.size ≤ 262144 then match lnO names s.size 1 s with
      | .inl m => ([], m, 380)
      | .inr l => (l, 0, 0)
    else ([], 0, 5)
  else ([], 0, 2)
def lnK (xs : List Aa) (o : Nat ⊕ List Aa) : Nat ⊕ List Aa := match o with
  | .inl m => .inl m
  | .inr l => .inr (xs ++ l)
theorem lnK_cons (xs : List Aa) (a : Aa) (o : Nat ⊕ List Aa) : lnK xs (match o with | .inl m => .inl m | .inr l => .inr (a :: l)) = lnK (xs ++ [a]) o := by
  cases o with
  | inl m => rfl
  | inr l => simp [lnK]
theorem cutR_sz (s : ByteArray) (h : s ≠ ⟨#[]⟩) : (cutR s).1.size ≤ s.size ∧ (cutR s).2.1.size + 1 ≤ s.size := by
  have hp : 0 < s.size := Nat.pos_of_ne_zero fun h0 => h (ba_nil h0)
  unfold cutR
  split
  · exact ⟨by show (s.extract _ _).size ≤ _; rw [ByteArray.size_extract]; omega, by show (s.extract _ _).size + 1 ≤ _; rw [ByteArray.size_extract]; omega⟩
  · exact ⟨Nat.le_refl _, by show 0 + 1 ≤ _; omega⟩
theorem axC_one (a : Ax) : ∀ u ∈ axC a, u.oneCell' = true := by
  intro u hu
  simp only [axC, List.mem_cons, List.not_mem_nil, or_false] at hu
  rcases hu with rfl | rfl | rfl | rfl | rfl | rfl | rfl | rfl | rfl | rfl <;> rfl
def raK (r : List Aa × Nat × Int) (M : Mem) (L : HL) (v : Value) (M' : Mem) (L' : HL) : Prop :=
  M.le M' ∧ L' = L ∧ ∃ A : SAx, SaOk M' A ∧ A.xs.map Ax.aa = r.1 ∧ A.len ≤ A.cap ∧ v = .tuple ⟨[A.v, iv r.2.1, .int .i64 r.2.2]⟩
theorem noA_ok (M : Mem) : SaOk M ⟨none, 0, 0, []⟩ := ⟨⟨rfl, (fun _ h => by cases h), .inl rfl⟩, by decide, fun _ h => by cases h⟩
theorem OS.capL {e size n c : Nat} {a : Option Addr} {xs : List Value} {N : HL} (h : OS e size (.slice a n c) n xs N) : n ≤ c := by
  rcases h with ⟨hv, rfl, _, _⟩ | ⟨b, cap, cs, hv, rfl, hle, _, _⟩
  · exact Nat.zero_le _
  · cases hv; exact hle
set_option maxHeartbeats 16000000 in
theorem tread_ok (M : Mem) (L : HL) (hG : G38 M) (S : SStr) (hS : StOk M S) (hcap : S.len ≤ S.cap) (hnz : ∀ x ∈ S.xs, x.size < 1000000) (s : ByteArray) (hs : s.size < 1000000) : Tr Tryz.prog 25 [S.v, .string s] M L (raK (readA S.xs s) M L) := by
  have hroll := fun L => roll_ok M L S hS hcap hnz
  refine Tr.intro 49 Tryz.func25 rfl rfl Tryz.call25 rfl ?_; intro C hC hro
  by_cases hr : rollB S.xs = true
  rotate_left
  · rw [if_neg hr] at hroll
    repeat (first | refine zc ?_ | refine vq ?_)
    refine qc (hroll _) ?_
    repeat (first | refine yy ?_ | refine yx fun _ => ?_)
    refine run_cond rfl (fun _ => ?_) (fun h => by cases h)
    repeat (first | refine yy ?_ | refine yx fun _ => ?_)
    exact run_ret hC (rs := [.tmp 4, .tmp 5, .tmp 6]) rfl (resT rfl (resT rfl (resT rfl resN))) (fun _ h => h) ⟨Mem.le_refl _, rfl, ⟨none, 0, 0, []⟩, noA_ok _, by rw [readA, if_neg hr]; rfl, Nat.le_refl _, by rw [readA, if_neg hr]; rfl⟩
  rw [if_pos hr] at hroll
  repeat (first | refine zc ?_ | refine vq ?_)
  refine qc (hroll _) ?_
  repeat (first | refine yy ?_ | refine yx fun _ => ?_)
  refine run_cond rfl (fun h => by cases h) (fun _ => ?_)
  repeat (first | refine yy ?_ | refine yx fun _ => ?_)
  refine run_cond (t := decide ((s.size : Int) > 262144)) rfl (fun h => ?_) (fun h => ?_)
  · have hz : ¬ s.size ≤ 262144 := by have := of_decide_eq_true h; omega
    repeat (first | refine yy ?_ | refine yx fun _ => ?_)
    exact run_ret hC (rs := [.tmp 4, .tmp 5, .tmp 6]) rfl (resT rfl (resT rfl (resT rfl resN))) (fun _ h => h) ⟨Mem.le_refl _, rfl, ⟨none, 0, 0, []⟩, noA_ok _, by rw [readA, if_pos hr, if_neg hz]; rfl, Nat.le_refl _, by rw [readA, if_pos hr, if_neg hz]; rfl⟩
  have hz : s.size ≤ 262144 := by have := of_decide_eq_false h; omega
  obtain ⟨R, hR⟩ : ∃ R, lnO S.xs s.size 1 s = R := ⟨_, rfl⟩
  have hi1 : ∀ m, R = .inl m → readA S.xs s = ([], m, 380) := fun m h => by rw [readA, if_pos hr, if_pos hz, hR.trans h]
  have hi2 : ∀ l, R = .inr l → readA S.xs s = (l, 0, 0) := fun l h => by rw [readA, if_pos hr, if_pos hz, hR.trans h]
  repeat (first | refine yy ?_ | refine yx fun _ => ?_)
  refine run_loopN (fun j σ1 M1 L1 => j ≤ s.size ∧ M.le M1 ∧ ∃ a c N ys s1, ys.length = j ∧ L1 = N ++ L ∧ OS 28 10 (.slice a j c) j (ys.map axC).flatten N ∧ (∀ x ∈ ys, AxOk M1 x) ∧ s1.size + j ≤ s.size ∧ R = lnK (ys.map Ax.aa) (lnO S.xs (s.size - j) (j + 1) s1) ∧ σ1 = [(5, iv (j + 1)), (4, .slice a j c), (0, S.v), (1, .string s1)]) s.size [(5, iv 1), (4, .slice none 0 0), (0, S.v), (1, .string s)] ?_ ⟨Nat.zero_le _, Mem.le_refl _, none, 0, [], [], s, rfl, rfl, .inl ⟨rfl, rfl, rfl, rfl⟩, (fun _ h => by cases h), Nat.le_refl _, by rw [Nat.sub_zero, ← hR]; cases lnO S.xs s.size 1 s <;> rfl, rfl⟩ (fun j _ _ _ h => h.1) ?_
  · exact ⟨rfl, rfl, rfl, rfl, trivial⟩
  rintro j _ M1 _ ⟨hj, hM1, a, c, N, ys, s1, hys, rfl, hO, hok, hs1, hP, rfl⟩ hnext
  have hend : s1 = ⟨#[]⟩ → ∀ k n, lnO S.xs k n s1 = .inr [] := fun h k n => by
    cases k with
    | zero => rfl
    | succ k => rw [lnO, if_pos h]
  repeat (first | refine yy ?_ | refine yx fun _ => ?_)
  refine run_cond (t := !(s1.toList == (⟨#[]⟩ : ByteArray).toList)) rfl (fun h1 => ?_) (fun h1 => ?_)
  rotate_left
  · rw [bytes_beq] at h1
    rw [hend (by simpa using h1), lnK, List.append_nil] at hP
    have hrd := hi2 _ hP
    have hcl := OS.capL hO
    repeat (first | refine yy ?_ | refine yx fun _ => ?_)
    refine run_frzL N fun M5 hM5 hb => ?_
    exact run_ret hC (rs := [.tmp 4, .tmp 5, .tmp 6]) rfl (resT rfl (resT rfl (resT rfl resN))) (fun _ h => h) ⟨Mem.le_trans hM1 hM5, rfl, ⟨a, j, c, ys⟩, ⟨OS.toM hO (fun l hl => by obtain ⟨x, _, rfl⟩ := List.mem_map.1 hl; rfl) (by simpa using hys) hb, by show j < _; omega, fun x hx => (hok x hx).le hM5⟩, by rw [hrd], hcl, by rw [hrd]; rfl⟩
  rw [bytes_beq] at h1
  have hne : s1 ≠ ⟨#[]⟩ := by simpa using h1
  obtain ⟨hc1, hc2⟩ := cutR_sz s1 hne
  rw [show s.size - j = (s.size - (j + 1)) + 1 by omega, lnO, if_neg hne] at hP
  generalize hcut : cutR s1 = ct at hc1 hc2 hP
  have hcn := fun L => cutNl_ok M1 L s1 (by omega)
  rw [hcut] at hcn
  generalize hpa : parseA S.xs ct.1 = pa at hP
  have hpar := fun L => tparse_ok M1 L (hG.le hM1) S (hS.le hM1) hcap hnz ct.1 (by omega)
  rw [hpa] at hpar
  repeat (first | refine zc ?_ | refine vq ?_)
  refine qc (hcn _) ?_
  repeat (first | refine zc ?_ | refine vq ?_)
  refine oc (hpar _) ?_
  rintro _ M2 _ ⟨hM2, rfl, ax, hax, haa, rfl⟩
  have hM12 := Mem.le_trans hM1 hM2
  repeat (first | refine yy ?_ | refine yx fun _ => ?_)
  rename_i ba
  refine run_cond (t := !ct.2.2 || (pa.2 != 0)) rfl (fun h2 => ?_) (fun h2 => ?_)
  · have hno : ¬ (ct.2.2 = true ∧ pa.2 = 0) := fun h => by rw [h.1, h.2] at h2; cases h2
    rw [if_neg hno] at hP
    have hrd := hi1 _ hP
    repeat (first | refine yy ?_ | refine yx fun _ => ?_)
    exact run_ret hC (rs := [.tmp 4, .tmp 5, .tmp 6]) rfl (resT rfl (resT rfl (resT rfl resN))) (fun _ h => h.drop.dropAll) ⟨hM12, rfl, ⟨none, 0, 0, []⟩, noA_ok _, by rw [hrd]; rfl, Nat.le_refl _, by rw [hrd]; rfl⟩
  have hyes : ct.2.2 = true ∧ pa.2 = 0 := by
    simp only [Bool.or_eq_false_iff, Bool.not_eq_false', bne_eq_false_iff_eq] at h2
    exact h2
  rw [if_pos hyes] at hP
  repeat (first | refine yy ?_ | refine yx fun _ => ?_)
  (refine runL_op (st_app1x (n := j) (news := axC ax) tok rfl rfl rfl rfl rfl rfl rfl rfl hO rfl (axC_one _) (by omega) (by omega)) rfl rfl rfl ?_; rintro _ _ _ ⟨rfl, N', a', c', rfl, rfl, hO'⟩)
  repeat (first | refine yy ?_ | refine yx fun _ => ?_)
  refine run_mem (fun _ h => h.drop) (run_sub' (hnext _ _ _ ⟨by omega, hM12, a', c', N', ys ++ [ax], ct.2.1, by rw [List.length_append, hys]; rfl, rfl, by rw [List.map_append, List.flatten_append]; simpa using hO', ?_, by omega, by rw [hP, lnK_cons, List.map_append, List.map_singleton, haa], rfl⟩) ⟨lk_succ rfl (by omega), rfl, rfl, rfl, trivial⟩)
  intro q hq
  rcases List.mem_append.1 hq with hq | hq
  · exact (hok q hq).le hM2
  · obtain rfl := List.mem_singleton.1 hq
    exact hax
end Go.Proofs.YtladcmfbkiogbaaGreatDoor
namespace Go.Proofs.YtladcmfbkiogbaaGreatDoor
open Go.Chi Go.Lib
set_option maxRecDepth 10000
def wOk : ByteArray := ⟨#[111, 107]⟩
def wErr : ByteArray := ⟨#[101, 114, 114, 111, 114, 32]⟩
def wCom : ByteArray := ⟨#[44, 32]⟩
def wPosts : ByteArray := ⟨#[32, 112, 111, 115, 116, 115]⟩
def ntC (e : Int) (t : Tx) (n : Int) : List Value := [.int .i64 e, .int .i64 t.coord, .int .i64 t.epoch, .int .i64 t.seq, .int .i64 n]
def noTx (t : Tx) : Bool := (t.coord == 0) && ((t.epoch == 0) && ((t.seq == 0) && true))
def badNt (k : Nat) (e : Int) (t : Tx) (n : Int) : Bool := (((decide (e < 0) || decide (e > 2147483647)) || decide (n < 0)) || decide (n > 2147483647)) || (!noTx t && (!mayTx t || decide (t.coord ≥ (k : Int))))
def noteS (names : List ByteArray) (e : Int) (t : Tx) (n : Int) : ByteArray :=
  ((if e = 0 then wOk else wErr ++ dgB e) ++ (if noTx t = true then ⟨#[]⟩ else sp1 ++ ((txnV names t).getD ⟨#[]⟩))) ++ (if n = 0 then ⟨#[]⟩ else (wCom ++ dgB n) ++ wPosts)
def noteA (names : List ByteArray) (e : Int) (t : Tx) (n : Int) : ByteArray × Int := if rollB names = true then if badNt names.length e t n = true then (⟨#[]⟩, 2) else (noteS names e t n, 0) else (⟨#[]⟩, 2)
set_option maxHeartbeats 16000000 in
theorem tnote_ok (M : Mem) (L : HL) (hG : G38 M) (S : SStr) (hS : StOk M S) (hcap : S.len ≤ S.cap) (hnz : ∀ x ∈ S.xs, x.size < 1000000) (e : Int) (t : Tx) (n : Int) : TrQ Tryz.prog 14 [S.v, .agg ⟨ntC e t n⟩] M L (.tuple ⟨[.string (noteA S.xs e t n).1, .int .i64 (noteA S.xs e t n).2]⟩) := by
  obtain ⟨ρ, hρ⟩ : ∃ ρ : Int, (if rollB S.xs = true then (0 : Int) else 2) = ρ := ⟨_, rfl⟩
  have hroll := fun L => roll_ok M L S hS hcap hnz
  rw [hρ] at hroll
  have hlen := hS.len
  refine Tr.intro 93 Tryz.func14 rfl rfl Tryz.call14 rfl ?_; intro C hC hro
  repeat (first | refine zc ?_ | refine yx fun _ => ?_ | refine vq ?_)
  rename_i b3
  refine qc (hroll _) ?_
  repeat (first | refine yy ?_ | refine yx fun _ => ?_ | refine gc (mayTx_ok _ _ t) ?_)
  have hbad : (((((((ρ != 0) || decide (e < 0)) || decide (e > 2147483647)) || decide (n < 0)) || decide (n > 2147483647)) || (!noTx t && (!mayTx t || decide (t.coord ≥ (S.len : Int)))))) = true ↔ ¬ (rollB S.xs = true ∧ badNt S.xs.length e t n = false) := by
    have e1 : (((((((ρ != 0) || decide (e < 0)) || decide (e > 2147483647)) || decide (n < 0)) || decide (n > 2147483647)) || (!noTx t && (!mayTx t || decide (t.coord ≥ (S.len : Int)))))) = ((ρ != 0) || badNt S.xs.length e t n) := by
      rw [hlen, badNt]; simp only [Bool.or_assoc]
    rw [e1, ← hρ]
    generalize badNt S.xs.length e t n = b
    by_cases hr : rollB S.xs = true
    · rw [if_pos hr]; cases b <;> simp [hr]
    · rw [if_neg hr]; simp [hr]
  refine run_cond (t := (((((((ρ != 0) || decide (e < 0)) || decide (e > 2147483647)) || decide (n < 0)) || decide (n > 2147483647)) || (!noTx t && (!mayTx t || decide (t.coord ≥ (S.len : Int))))))) rfl (fun h => ?_) (fun h => ?_)
  · have h0 := hbad.1 h
    have hna : noteA S.xs e t n = (⟨#[]⟩, 2) := by
      unfold noteA
      by_cases hr : rollB S.xs = true
      · rw [if_pos hr, if_pos (by
          cases hb : badNt S.xs.length e t n with
          | true => rfl
          | false => exact absurd ⟨hr, hb⟩ h0)]
      · rw [if_neg hr]
    repeat (first | refine yy ?_ | refine yx fun _ => ?_)
    exact run_ret hC (rs := [.tmp 4, .tmp 5]) rfl (resT rfl (resT rfl resN)) (fun _ h => h.drop) ⟨by rw [hna]; rfl, rfl, rfl⟩
  have hgood : rollB S.xs = true ∧ badNt S.xs.length e t n = false := Classical.byContradiction fun h1 => by
    rw [hbad.2 h1] at h; cases h
  clear hbad h
  obtain ⟨hr, hb⟩ := hgood
  have hna : noteA S.xs e t n = (noteS S.xs e t n, 0) := by rw [noteA, if_pos hr, if_neg (by rw [hb]; decide)]
  rw [badNt] at hb
  simp only [Bool.or_eq_false_iff, decide_eq_false_iff_not] at hb
  obtain ⟨⟨⟨⟨he0, he1⟩, hn0⟩, hn1⟩, htx⟩ := hb
  have hdn := dgB_sz (n := n) (by omega)
  have hde := dgB_sz (n := e) (by omega)
  generalize hL3 : (b3, Obj.cells ⟨ntC e t n⟩ 31 (0, 0)) :: L = L3
  have hm3 : (b3, Obj.cells ⟨ntC e t n⟩ 31 (0, 0)) ∈ L3 := by rw [← hL3]; exact List.mem_cons_self
  refine run_mem (L' := L3) (fun _ h => by rw [← hL3]; exact h) ?_
  have hout : ∀ (M1 : Mem) w, Hp M1 L3 w → Hp M1 L w := fun M1 w h => by rw [← hL3] at h; exact h.drop
  repeat (first | refine yy ?_ | refine yx fun _ => ?_)
  rename_i b7 b8
  have hB0 : VoAt b7 S.v [] L3 ((b7, voO S.v (.pointer none) (.slice none 0 0)) :: L3) := ⟨_, _, [], .inl rfl, List.Perm.refl _, bdS_nil⟩
  refine oc (say1_ok _ _ _ b7 _ _ _ wOk hB0 (by show 0 + 2 < _; omega)) ?_
  rintro _ M1 L1 ⟨hM1, hB1⟩
  have hm1 := hB1.memR hm3
  repeat (first | refine yy ?_ | refine yx fun _ => ?_)
  refine run_condI (fun σ' M' L' => ∃ bv R' u, M.le M' ∧ VoAt bv S.v u.data.toList R' L' ∧ (∀ (M1 : Mem) w, Hp M1 R' w → Hp M1 L3 w) ∧ (b3, Obj.cells ⟨ntC e t n⟩ 31 (0, 0)) ∈ R' ∧ u = (if e = 0 then wOk else wErr ++ dgB e) ∧ σ' = [(7, pt bv), (6, .bool (noTx t)), (3, pt b3)]) (t := e != 0) rfl (fun h hk => ?_) (fun h hk => ?_) ?_
  · have he : e ≠ 0 := by simpa using h
    obtain ⟨p', v', N', _, hL', _⟩ := id hB1
    have hi := fun L => itoa_ok M1 L e.toNat (by omega) (hG.le hM1)
    rw [Int.toNat_of_nonneg (by omega)] at hi
    repeat (first | refine yy ?_ | refine yx fun _ => ?_)
    rename_i b9
    have hB9 : VoAt b9 S.v [] L1 ((b9, voO S.v (.pointer none) (.slice none 0 0)) :: L1) := ⟨_, _, [], .inl rfl, List.Perm.refl _, bdS_nil⟩
    have h6e : wErr.size = 6 := rfl
    refine qc (hi _) ?_
    refine yx fun b10 => ?_
    refine oc (say_ok _ _ _ b9 _ _ _ [wErr, dgB e] _ 2 rfl rfl (by decide) hB9 (by simp only [cat, app_size]; rw [h6e]; show 0 + (_ + (_ + 0)) < _; omega)) ?_
    rintro _ M4 L5 ⟨hM4, hB4⟩
    refine yy ?_
    exact run_sub' (hk _ _ _ ⟨b9, L1, wErr ++ dgB e, Mem.le_trans hM1 hM4, by simpa [cat] using hB4, fun M1 w h => ((h.perm hL').dropAll).drop, hm1, by rw [if_neg he], rfl⟩) ⟨rfl, rfl, rfl, trivial⟩
  · have he : e = 0 := by simpa using h
    refine yy ?_
    exact run_sub' (hk _ _ _ ⟨b7, L3, wOk, hM1, hB1, fun _ _ h => h, hm3, by rw [if_pos he], rfl⟩) ⟨rfl, rfl, rfl, trivial⟩
  rintro _ M2 L2 ⟨bv, R', u, hM2, hB2, hR', hm2, hu, rfl⟩
  clear hB1 hB0 hm1
  have huz : u.size ≤ 25 := by
    rw [hu]; split
    · decide
    · have : wErr.size = 6 := rfl
      rw [app_size]; omega
  have hmL := hB2.memR hm2
  repeat (first | refine yy ?_ | refine yx fun _ => ?_)
  refine run_condI (fun σ' M' L' => ∃ w, M.le M' ∧ VoAt bv S.v (u ++ w).data.toList R' L' ∧ w.size ≤ 1000200 ∧ w = (if noTx t = true then ⟨#[]⟩ else sp1 ++ ((txnV S.xs t).getD ⟨#[]⟩)) ∧ σ' = [(7, pt bv), (3, pt b3)]) (t := !noTx t) rfl (fun h hk => ?_) (fun h hk => ?_) ?_
  · have hno : noTx t = false := by simpa using h
    have hmt : mayTx t = true ∧ t.coord < (S.xs.length : Int) := by
      rw [hno] at htx
      simp only [Bool.not_false, Bool.true_and, Bool.or_eq_false_iff, Bool.not_eq_false', decide_eq_false_iff_not] at htx
      exact ⟨htx.1, by omega⟩
    have htf := txIn hmt.1
    refine yy ?_
    refine yy ?_
    refine yy ?_
    refine yx fun b9 => ?_
    refine oc (say1_ok _ _ _ bv _ _ _ sp1 hB2 (by rw [ba_len]; show _ + 1 < _; omega)) ?_
    rintro _ M3 L4 ⟨hM3, hB3⟩
    have hM23 := Mem.le_trans hM2 hM3
    have hm3 := hB3.memR hm2
    repeat (first | refine yi ?_)
    refine vR (vtxn_ok _ _ _ (hG.le hM23) bv _ S (hS.le hM23) t htf.1 htf.2.1 htf.2.2 hB3 (fun x hx => by
      have := hnz x hx
      rw [List.length_append, ba_len, ba_len]; show _ + 1 + _ + _ < _; omega)) (fun w M4 L5 hw hM4 hB4 => ?_) (fun hw => ?_)
    rotate_left
    · exfalso
      rw [txnV, Option.map_eq_none_iff, orgV, List.getElem?_eq_none_iff] at hw
      omega
    have hwz := txnV_sz hnz htf.2.1.2 htf.2.2.2 hw
    refine yy ?_
    exact run_sub' (hk _ _ _ ⟨sp1 ++ w, Mem.le_trans hM23 hM4, by simpa using hB4, by rw [app_size]; show 1 + _ ≤ _; omega, by rw [hno, if_neg (by decide), hw]; rfl, rfl⟩) ⟨rfl, rfl, trivial⟩
  · have hno : noTx t = true := by simpa using h
    refine yy ?_
    exact run_sub' (hk _ _ _ ⟨⟨#[]⟩, hM2, by rw [app_nil]; exact hB2, Nat.zero_le _, by rw [hno, if_pos rfl], rfl⟩) ⟨rfl, rfl, trivial⟩
  clear hB2 hmL
  rintro _ M3 L4 ⟨w, hM3, hB3, hwz, hw, rfl⟩
  have hm3 := hB3.memR hm2
  have h2c : wCom.size = 2 := rfl
  have h6p : wPosts.size = 6 := rfl
  repeat (first | refine yy ?_ | refine yx fun _ => ?_)
  refine run_condI (fun σ' M' L' => M.le M' ∧ VoAt bv S.v (noteS S.xs e t n).data.toList R' L' ∧ (noteS S.xs e t n).size ≤ 2000000 ∧ 1 ≤ (noteS S.xs e t n).size ∧ σ' = [(7, pt bv)]) (t := n != 0) rfl (fun h hk => ?_) (fun h hk => ?_) ?_
  · have hn : n ≠ 0 := by simpa using h
    have hns : noteS S.xs e t n = (u ++ w) ++ ((wCom ++ dgB n) ++ wPosts) := by rw [noteS, ← hu, ← hw, if_neg hn]
    have hi := itoa_ok M3 L4 n.toNat (by omega) (hG.le hM3)
    rw [Int.toNat_of_nonneg (by omega)] at hi
    repeat (first | refine zc ?_ | refine vq ?_)
    refine qc hi ?_
    refine yx fun b9 => ?_
    refine oc (say_ok _ _ _ bv _ _ _ [wCom, dgB n, wPosts] _ 3 rfl rfl (by decide) hB3 (by simp only [cat, app_size, ba_len]; rw [h2c, h6p]; show _ + (_ + (_ + (_ + 0))) < _; omega)) ?_
    rintro _ M4 L5 ⟨hM4, hB4⟩
    refine yy ?_
    exact run_sub' (hk _ _ _ ⟨Mem.le_trans hM3 hM4, by rw [hns]; simpa [cat] using hB4, by rw [hns]; simp only [app_size]; omega, by rw [hns]; simp only [app_size]; omega, rfl⟩) ⟨rfl, trivial⟩
  · have hn : n = 0 := by simpa using h
    have hns : noteS S.xs e t n = u ++ w := by rw [noteS, ← hu, ← hw, if_pos hn, app_nil]
    have hup : 1 ≤ u.size := by
      rw [hu]; split
      · decide
      · have : wErr.size = 6 := rfl
        rw [app_size]; omega
    refine yy ?_
    exact run_sub' (hk _ _ _ ⟨hM3, by rw [hns]; exact hB3, by rw [hns, app_size]; omega, by rw [hns, app_size]; omega, rfl⟩) ⟨rfl, trivial⟩
  rintro _ M4 L5 ⟨hM4, hB4, hz2, hz1, rfl⟩
  repeat (first | refine yy ?_ | refine yx fun _ => ?_)
  refine oc (vStr_ok _ _ _ bv _ _ hB4 hz1 (by omega)) ?_
  rintro _ _ L6 ⟨rfl, rfl, N, hN⟩
  repeat (first | refine yy ?_ | refine yx fun _ => ?_)
  exact run_ret hC (rs := [.tmp 4, .tmp 5]) rfl (resT rfl (resT rfl resN)) (fun w h => hout _ w (hR' _ w ((h.of_le hM4).perm hN).dropAll)) ⟨by rw [hna]; rfl, rfl, rfl⟩
end Go.Proofs.YtladcmfbkiogbaaGreatDoor
namespace Go.Proofs.YtladcmfbkiogbaaGreatDoor
open Go.Chi Go.Lib
set_option maxRecDepth 100000
def nm3 : List ByteArray := [⟨#[97, 99, 109, 101]⟩, ⟨#[98, 111, 108, 116]⟩, ⟨#[99, 97, 114, 112]⟩]
def kot2 : List ByteArray := [⟨#[107, 111, 116]⟩, ⟨#[208, 186, 208, 190, 209, 130]⟩]
def exA1 : Aa := ⟨1, 0, 2, 0, [⟨1, ⟨#[100, 2, 104, 105]⟩⟩], tz, false, []⟩
def exA2 : Aa := ⟨2, 1, 0, 0, [], ⟨0, 1, 2⟩, true, []⟩
def exS1 : ByteArray := ⟨#[97, 99, 109, 101, 32, 98, 101, 103, 105, 110, 115, 32, 102, 111, 114, 32, 99, 97, 114, 112, 58, 32, 98, 111, 108, 116, 32, 34, 104, 105, 34]⟩
def exS2 : ByteArray := ⟨#[98, 111, 108, 116, 32, 115, 97, 121, 115, 32, 121, 101, 115, 32, 116, 111, 32, 97, 99, 109, 101, 47, 49, 47, 50]⟩
def exS3 : ByteArray := ⟨#[97, 99, 109, 101, 32, 116, 105, 99, 107, 115, 10, 99, 97, 114, 112, 32, 103, 101, 116, 115, 32, 115, 101, 101, 110, 32, 48, 32, 43, 32, 104, 97, 115, 104, 32, 48, 10, 112, 111, 115, 116, 32, 48, 51, 48, 48, 32, 99, 111, 109, 101, 115, 10]⟩
def exS4 : ByteArray := ⟨#[111, 107, 44, 32, 50, 32, 112, 111, 115, 116, 115]⟩
theorem al_roll : rollB nm3 = true := by decide +kernel
theorem al_kot : rollB kot2 = false := by decide +kernel
theorem al_line : lineA nm3 exA1 = (exS1, 0) := by decide +kernel
theorem al_parse : parseA nm3 exS2 = (exA2, 0) := by kernel_rfl
theorem al_read : readA nm3 exS3 = ([], 3, 380) := by kernel_rfl
theorem al_note : noteA nm3 0 tz 2 = (exS4, 0) := by decide +kernel
end Go.Proofs.YtladcmfbkiogbaaGreatDoor
namespace Go.Proofs.YtladcmfbkiogbaaGreatDoor
open Go.Chi
set_option maxRecDepth 10000
set_option maxRecDepth 10000 in
set_option maxHeartbeats 8000000 in
theorem refSameInts_ok (M : Mem) (L : HL) (p q : SIn) (hp : InOk M p) (hq : InOk M q) : TrQ Tryz.prog 99 [p.v, q.v] M L (.bool (decide (p.xs = q.xs))) := by
  have l1 := hp.len
  have l2 := hq.len
  have n1 := hp.2
  have n2 := hq.2
  obtain ⟨pa, pl, pc, px⟩ := p
  obtain ⟨qa, ql, qc, qx⟩ := q
  simp only [SIn.v] at *
  refine Tr.intro 26 Tryz.func99 rfl rfl Tryz.call99 rfl ?_; intro C hC hro
  repeat (first | refine zz ?_ | refine zx fun _ => ?_)
  refine run_cond rfl (fun h => ?_) (fun h => ?_)
  · have hne : px ≠ qx := by rintro rfl; simp at h; omega
    rw [decide_eq_false hne] at hC
    repeat (first | refine zz ?_ | refine zx fun _ => ?_)
    exact run_ret hC (rs := [.tmp 4]) rfl (resT rfl resN) (fun _ h => h) ⟨rfl, rfl, rfl⟩
  have he : pl = ql := by simp at h; omega
  subst he
  repeat (first | refine zz ?_ | refine zx fun _ => ?_)
  refine run_loopN (fun j σ1 M1 L1 => j ≤ pl ∧ M = M1 ∧ L = L1 ∧ px.take j = qx.take j ∧ σ1 = [(5, .int .i64 (j : Int)), (0, .slice pa pl pc), (1, .slice qa pl qc)]) pl [(5, .int .i64 ((0 : Nat) : Int)), (0, .slice pa pl pc), (1, .slice qa pl qc)] ?_ ⟨Nat.zero_le _, rfl, rfl, by simp, rfl⟩ (fun j _ _ _ h => h.1) ?_
  · exact ⟨rfl, rfl, rfl, trivial⟩
  rintro j _ _ _ ⟨hj, rfl, rfl, heq, rfl⟩ hnext
  repeat (first | refine zz ?_ | refine zx fun _ => ?_)
  refine run_cond rfl (fun h => ?_) (fun h => ?_)
  · have hlt : j < pl := by simpa using h
    obtain ⟨b, off, m, rfl, hm, hc⟩ := SIn.at_ hp.1 hlt
    obtain ⟨b', off', m', rfl, hm', hc'⟩ := SIn.at_ hq.1 hlt
    repeat (first | refine zz ?_ | refine zx fun _ => ?_ | refine dd ?_ | refine dz ?_ | refine dx fun _ => ?_ | refine prn_q rfl (qt_indexN tok rfl rfl rfl rfl (fun _ => by omega)) (by decide +kernel) rfl rfl rfl ?_ | refine prn_g rfl rfl rfl (qt_indexN tok rfl rfl rfl rfl (fun _ => by omega)) (by decide +kernel) rfl rfl rfl rfl rfl ?_ | refine prn_q rfl (qt_ldM tok rfl hc rfl) (by decide +kernel) rfl rfl rfl ?_ | refine prn_g rfl rfl rfl (qt_ldM tok rfl hc rfl) (by decide +kernel) rfl rfl rfl rfl rfl ?_ | refine prn_q rfl (qt_ldM0 tok rfl hc rfl) (by decide +kernel) rfl rfl rfl ?_ | refine prn_g rfl rfl rfl (qt_ldM0 tok rfl hc rfl) (by decide +kernel) rfl rfl rfl rfl rfl ?_ | refine prn_q rfl (qt_ldM tok rfl hc' rfl) (by decide +kernel) rfl rfl rfl ?_ | refine prn_g rfl rfl rfl (qt_ldM tok rfl hc' rfl) (by decide +kernel) rfl rfl rfl rfl rfl ?_ | refine prn_q rfl (qt_ldM0 tok rfl hc' rfl) (by decide +kernel) rfl rfl rfl ?_ | refine prn_g rfl rfl rfl (qt_ldM0 tok rfl hc' rfl) (by decide +kernel) rfl rfl rfl rfl rfl ?_)
    refine run_cond rfl (fun h => ?_) (fun h => ?_)
    · have hne : px ≠ qx := by rintro rfl; rw [hm] at hm'; cases hm'; simp at h
      rw [decide_eq_false hne] at hC
      repeat (first | refine zz ?_ | refine zx fun _ => ?_)
      exact run_ret hC (rs := [.tmp 4]) rfl (resT rfl resN) (fun _ h => h) ⟨rfl, rfl, rfl⟩
    · have hmm : m = m' := by simpa using h
      subst hmm
      repeat (first | refine zz ?_ | refine zx fun _ => ?_)
      refine run_sub' (hnext _ _ _ ⟨hlt, rfl, rfl, ?_, rfl⟩) ⟨lk_succ rfl (by omega), rfl, rfl, trivial⟩
      rw [take_snoc hm, take_snoc hm', heq]
  · have hge : j = pl := by simp at h; omega
    subst hge
    rw [List.take_of_length_le (by omega), List.take_of_length_le (by omega)] at heq
    rw [decide_eq_true heq] at hC
    repeat (first | refine zz ?_ | refine zx fun _ => ?_)
    exact run_ret hC (rs := [.tmp 4]) rfl (resT rfl resN) (fun _ h => h) ⟨rfl, rfl, rfl⟩
def sameSp (x y : Sp) : Bool := ((((((x.do_ == y.do_) && (x.a == y.a)) && (x.b == y.b)) && (x.c == y.c)) && (x.n == y.n)) && (x.text.toList == y.text.toList)) && decide (x.list = y.list)
set_option maxRecDepth 10000 in
set_option maxHeartbeats 16000000 in
theorem refSameStep_ok (M : Mem) (L : HL) (x y : Sr) (hx : SrOk M x) (hy : SrOk M y) : TrQ Tryz.prog 55 [.agg ⟨srC x⟩, .agg ⟨srC y⟩] M L (.bool (sameSp x.sp y.sp)) := by
  refine Tr.intro 52 Tryz.func55 rfl rfl Tryz.call55 rfl ?_; intro C hC hro
  repeat (first | refine zz ?_ | refine zx fun _ => ?_ | refine runL_g rfl rfl (qt_callF rfl (fun _ => refSameInts_ok _ _ x.list y.list hx.list hy.list)) rfl rfl rfl rfl rfl ?_)
  exact run_ret hC (rs := [.tmp 4]) rfl (resT rfl resN) (fun _ h => h.drop.drop) ⟨rfl, rfl, rfl⟩
end Go.Proofs.YtladcmfbkiogbaaGreatDoor
namespace Go.Proofs.YtladcmfbkiogbaaGreatDoor
open Go.Chi
set_option maxRecDepth 10000
theorem sameSp_iff (x y : Sp) : sameSp x y = true ↔ x = y := by
  obtain ⟨d, a, b, c, n, t, l⟩ := x
  obtain ⟨d', a', b', c', n', t', l'⟩ := y
  unfold sameSp
  rw [bytes_beq]
  simp [and_assoc]
set_option maxRecDepth 10000 in
set_option maxHeartbeats 32000000 in
theorem refSameAct_ok (M : Mem) (L : HL) (x y : Ax) (hx : AxOk M x) (hy : AxOk M y) (r : Bool) (hr : r = true ↔ x.aa = y.aa) : TrQ Tryz.prog 19 [.agg ⟨axC x⟩, .agg ⟨axC y⟩] M L (.bool r) := by
  have l1 := hx.gives.len
  have l2 := hy.gives.len
  have l3 := hx.steps.len
  have l4 := hy.steps.len
  have n1 := hx.gives.2
  have n3 := hx.steps.lt
  refine Tr.intro 102 Tryz.func19 rfl rfl Tryz.call19 rfl ?_; intro C hC hro
  repeat (first | refine zz ?_ | refine zx fun _ => ?_)
  rename_i bx bY
  refine run_cond rfl (fun h => ?_) (fun h => ?_)
  · have hrf : r = false := by
      cases r with
      | false => rfl
      | true =>
        exfalso
        have he := hr.1 rfl
        simp only [Ax.aa, Aa.mk.injEq] at he
        obtain ⟨e1, e2, e3, e4, e5, e6, e7, e8⟩ := he
        have e9 : x.gives.len = y.gives.len := by rw [← l1, ← l2, e5]
        have e10 : x.steps.len = y.steps.len := by have := congrArg List.length e8; simpa [l3, l4] using this
        simp [e1, e2, e3, e4, e6, e7, e9, e10] at h
    subst hrf
    repeat (first | refine zz ?_ | refine zx fun _ => ?_)
    exact run_ret hC (rs := [.tmp 4]) rfl (resT rfl resN) (fun _ h => h.drop.drop) ⟨rfl, rfl, rfl⟩
  have hall : x.do_ = y.do_ ∧ x.org = y.org ∧ x.auditor = y.auditor ∧ x.n = y.n ∧ x.txn = y.txn ∧ x.yes = y.yes ∧ x.gives.len = y.gives.len ∧ x.steps.len = y.steps.len := by
    simp only [Bool.or_eq_false_iff, bne_eq_false_iff_eq, Bool.not_eq_false', Bool.and_eq_true, beq_iff_eq, and_true] at h
    obtain ⟨⟨⟨⟨⟨⟨⟨e1, e2⟩, e3⟩, e4⟩, e5, e6, e7⟩, e8⟩, e9⟩, e10⟩ := h
    refine ⟨e1, e2, e3, e4, ?_, e8, by omega, by omega⟩
    cases hxt : x.txn
    cases hyt : y.txn
    rw [hxt, hyt] at e5 e6 e7
    simp only at e5 e6 e7
    rw [e5, e6, e7]
  obtain ⟨e1, e2, e3, e4, e6, e7, e9, e10⟩ := hall
  have hr2 : r = true ↔ x.gives.xs = y.gives.xs ∧ x.steps.xs.map Sr.sp = y.steps.xs.map Sr.sp := by
    rw [hr]
    simp only [Ax.aa, Aa.mk.injEq]
    exact ⟨fun q => ⟨q.2.2.2.2.1, q.2.2.2.2.2.2.2⟩, fun q => ⟨e1, e2, e3, e4, q.1, e6, e7, q.2⟩⟩
  repeat (first | refine zz ?_ | refine zx fun _ => ?_)
  refine run_loopN (fun j σ1 M1 L1 => j ≤ x.gives.len ∧ M = M1 ∧ x.gives.xs.take j = y.gives.xs.take j ∧ L1 = (bY, .cells ⟨axC y⟩ 28 (0, 0)) :: (bx, .cells ⟨axC x⟩ 28 (0, 0)) :: L ∧ σ1 = [(5, .int .i64 (j : Int)), (2, .pointer (some ⟨bx, 0, none⟩)), (3, .pointer (some ⟨bY, 0, none⟩))]) x.gives.len [(5, .int .i64 ((0 : Nat) : Int)), (2, .pointer (some ⟨bx, 0, none⟩)), (3, .pointer (some ⟨bY, 0, none⟩))] ?_ ⟨Nat.zero_le _, rfl, by simp, rfl, rfl⟩ (fun j _ _ _ h => h.1) ?_
  · exact ⟨rfl, rfl, rfl, trivial⟩
  rintro j _ _ _ ⟨hj, rfl, heq, rfl, rfl⟩ hnext
  repeat (first | refine zz ?_ | refine zx fun _ => ?_)
  refine run_cond rfl (fun h => ?_) (fun h => ?_)
  · have hlt : j < x.gives.len := by simpa using h
    obtain ⟨b, off, m, hma, hm, hc⟩ := SMb.at_ hx.gives.1 hlt
    have hv : x.gives.v = .slice (some ⟨b, off, none⟩) x.gives.len x.gives.cap := by rw [← hma]; rfl
    obtain ⟨b', off', m', hma', hm', hc'⟩ := SMb.at_ hy.gives.1 (show j < y.gives.len by omega)
    have hv' : y.gives.v = .slice (some ⟨b', off', none⟩) y.gives.len y.gives.cap := by rw [← hma']; rfl
    repeat (first | refine zz ?_ | refine zx fun _ => ?_)
    repeat (first | refine zz ?_ | refine zx fun _ => ?_ | refine dd ?_ | refine dz ?_ | refine dx fun _ => ?_)
    refine pr_as 73 (.slice (some ⟨b, off, none⟩) x.gives.len x.gives.cap) rfl hv ?_
    repeat (first | refine zz ?_ | refine zx fun _ => ?_ | refine dd ?_ | refine dz ?_ | refine dx fun _ => ?_ | refine prn_q rfl (qt_indexN tok rfl rfl rfl rfl (fun _ => by omega)) (by decide +kernel) rfl rfl rfl ?_ | refine prn_g rfl rfl rfl (qt_indexN tok rfl rfl rfl rfl (fun _ => by omega)) (by decide +kernel) rfl rfl rfl rfl rfl ?_ | refine prn_q rfl (qt_ldM tok rfl hc rfl) (by decide +kernel) rfl rfl rfl ?_ | refine prn_g rfl rfl rfl (qt_ldM tok rfl hc rfl) (by decide +kernel) rfl rfl rfl rfl rfl ?_ | refine prn_q rfl (qt_ldM0 tok rfl hc rfl) (by decide +kernel) rfl rfl rfl ?_ | refine prn_g rfl rfl rfl (qt_ldM0 tok rfl hc rfl) (by decide +kernel) rfl rfl rfl rfl rfl ?_)
    refine pr_as 78 (.slice (some ⟨b', off', none⟩) y.gives.len y.gives.cap) rfl hv' ?_
    repeat (first | refine zz ?_ | refine zx fun _ => ?_ | refine dd ?_ | refine dz ?_ | refine dx fun _ => ?_ | refine prn_q rfl (qt_indexN tok rfl rfl rfl rfl (fun _ => by omega)) (by decide +kernel) rfl rfl rfl ?_ | refine prn_g rfl rfl rfl (qt_indexN tok rfl rfl rfl rfl (fun _ => by omega)) (by decide +kernel) rfl rfl rfl rfl rfl ?_ | refine prn_q rfl (qt_ldM tok rfl hc' rfl) (by decide +kernel) rfl rfl rfl ?_ | refine prn_g rfl rfl rfl (qt_ldM tok rfl hc' rfl) (by decide +kernel) rfl rfl rfl rfl rfl ?_ | refine prn_q rfl (qt_ldM0 tok rfl hc' rfl) (by decide +kernel) rfl rfl rfl ?_ | refine prn_g rfl rfl rfl (qt_ldM0 tok rfl hc' rfl) (by decide +kernel) rfl rfl rfl rfl rfl ?_)
    have hmb : ∀ t : Bool, (!(m.org == m'.org && ((m.digest.toList == m'.digest.toList) && true))) = t → (t = true ↔ m ≠ m') := by
      rintro _ rfl
      obtain ⟨o, g⟩ := m
      obtain ⟨o', g'⟩ := m'
      rw [bytes_beq]
      simp
      exact ⟨fun h q1 q2 => h.elim (fun q => q q1) (fun q => q q2), fun h => by
        by_cases q : o = o'
        · exact .inr (h q)
        · exact .inl q⟩
    refine run_cond rfl (fun h => ?_) (fun h => ?_)
    · have hne := (hmb true h).1 rfl
      have hrf : r = false := by
        cases r with
        | false => rfl
        | true =>
          have he := (hr2.1 rfl).1
          rw [he, hm'] at hm
          cases hm
          exact absurd rfl hne
      subst hrf
      repeat (first | refine zz ?_ | refine zx fun _ => ?_)
      exact run_ret hC (rs := [.tmp 4]) rfl (resT rfl resN) (fun _ h => h.drop.drop) ⟨rfl, rfl, rfl⟩
    · have hmm : m = m' := Classical.byContradiction fun hne => by have := (hmb false h).2 hne; cases this
      subst hmm
      repeat (first | refine zz ?_ | refine zx fun _ => ?_)
      refine run_sub' (hnext _ _ _ ⟨hlt, rfl, ?_, rfl, rfl⟩) ⟨lk_succ rfl (by omega), rfl, rfl, trivial⟩
      rw [take_snoc hm, take_snoc hm', heq]
  have hge : j = x.gives.len := by simp at h; omega
  subst hge
  rw [List.take_of_length_le (by omega), List.take_of_length_le (by omega)] at heq
  clear hnext
  repeat (first | refine zz ?_ | refine zx fun _ => ?_)
  refine run_loopN (fun j σ1 M1 L1 => j ≤ x.steps.len ∧ M = M1 ∧ (x.steps.xs.map Sr.sp).take j = (y.steps.xs.map Sr.sp).take j ∧ L1 = (bY, .cells ⟨axC y⟩ 28 (0, 0)) :: (bx, .cells ⟨axC x⟩ 28 (0, 0)) :: L ∧ σ1 = [(6, .int .i64 (j : Int)), (2, .pointer (some ⟨bx, 0, none⟩)), (3, .pointer (some ⟨bY, 0, none⟩))]) x.steps.len [(6, .int .i64 ((0 : Nat) : Int)), (2, .pointer (some ⟨bx, 0, none⟩)), (3, .pointer (some ⟨bY, 0, none⟩))] ?_ ⟨Nat.zero_le _, rfl, by simp, rfl, rfl⟩ (fun j _ _ _ h => h.1) ?_
  · exact ⟨rfl, rfl, rfl, trivial⟩
  rintro j _ _ _ ⟨hj, rfl, heqs, rfl, rfl⟩ hnext
  repeat (first | refine zz ?_ | refine zx fun _ => ?_)
  refine run_cond rfl (fun h => ?_) (fun h => ?_)
  · have hlt : j < x.steps.len := by simpa using h
    obtain ⟨b, off, m, hma, hm, hc⟩ := SSr.at_ hx.steps.sl hlt
    have hv : x.steps.v = .slice (some ⟨b, off, none⟩) x.steps.len x.steps.cap := by rw [← hma]; rfl
    obtain ⟨b', off', m', hma', hm', hc'⟩ := SSr.at_ hy.steps.sl (show j < y.steps.len by omega)
    have hv' : y.steps.v = .slice (some ⟨b', off', none⟩) y.steps.len y.steps.cap := by rw [← hma']; rfl
    have hmo := hx.steps.each m (List.mem_of_getElem? hm)
    have hmo' := hy.steps.each m' (List.mem_of_getElem? hm')
    have hms : (x.steps.xs.map Sr.sp)[j]? = some m.sp := by rw [List.getElem?_map, hm]; rfl
    have hms' : (y.steps.xs.map Sr.sp)[j]? = some m'.sp := by rw [List.getElem?_map, hm']; rfl
    repeat (first | refine zz ?_ | refine zx fun _ => ?_)
    repeat (first | refine zz ?_ | refine zx fun _ => ?_ | refine dd ?_ | refine dz ?_ | refine dx fun _ => ?_)
    refine pr_as 91 (.slice (some ⟨b, off, none⟩) x.steps.len x.steps.cap) rfl hv ?_
    repeat (first | refine zz ?_ | refine zx fun _ => ?_ | refine dd ?_ | refine dz ?_ | refine dx fun _ => ?_ | refine prn_q rfl (qt_indexN tok rfl rfl rfl rfl (fun _ => by omega)) (by decide +kernel) rfl rfl rfl ?_ | refine prn_g rfl rfl rfl (qt_indexN tok rfl rfl rfl rfl (fun _ => by omega)) (by decide +kernel) rfl rfl rfl rfl rfl ?_ | refine prn_q rfl (qt_ldM tok rfl hc rfl) (by decide +kernel) rfl rfl rfl ?_ | refine prn_g rfl rfl rfl (qt_ldM tok rfl hc rfl) (by decide +kernel) rfl rfl rfl rfl rfl ?_ | refine prn_q rfl (qt_ldM0 tok rfl hc rfl) (by decide +kernel) rfl rfl rfl ?_ | refine prn_g rfl rfl rfl (qt_ldM0 tok rfl hc rfl) (by decide +kernel) rfl rfl rfl rfl rfl ?_)
    refine pr_as 96 (.slice (some ⟨b', off', none⟩) y.steps.len y.steps.cap) rfl hv' ?_
    repeat (first | refine zz ?_ | refine zx fun _ => ?_ | refine dd ?_ | refine dz ?_ | refine dx fun _ => ?_ | refine prn_q rfl (qt_indexN tok rfl rfl rfl rfl (fun _ => by omega)) (by decide +kernel) rfl rfl rfl ?_ | refine prn_g rfl rfl rfl (qt_indexN tok rfl rfl rfl rfl (fun _ => by omega)) (by decide +kernel) rfl rfl rfl rfl rfl ?_ | refine prn_q rfl (qt_ldM tok rfl hc' rfl) (by decide +kernel) rfl rfl rfl ?_ | refine prn_g rfl rfl rfl (qt_ldM tok rfl hc' rfl) (by decide +kernel) rfl rfl rfl rfl rfl ?_ | refine prn_q rfl (qt_ldM0 tok rfl hc' rfl) (by decide +kernel) rfl rfl rfl ?_ | refine prn_g rfl rfl rfl (qt_ldM0 tok rfl hc' rfl) (by decide +kernel) rfl rfl rfl rfl rfl ?_ | refine prn_q rfl (qt_callF rfl (fun _ => refSameStep_ok _ _ m m' hmo hmo')) (by decide +kernel) rfl rfl rfl ?_)
    refine run_cond rfl (fun h => ?_) (fun h => ?_)
    · have hrf : r = false := by
        cases r with
        | false => rfl
        | true =>
          have he := (hr2.1 rfl).2
          rw [he, hms'] at hms
          have hse : sameSp m.sp m'.sp = false := by simpa using h
          have : sameSp m.sp m'.sp = true := (sameSp_iff _ _).2 (Option.some.inj hms).symm
          rw [hse] at this; cases this
      subst hrf
      repeat (first | refine zz ?_ | refine zx fun _ => ?_)
      exact run_ret hC (rs := [.tmp 4]) rfl (resT rfl resN) (fun _ h => h.drop.drop) ⟨rfl, rfl, rfl⟩
    · have hmm : m.sp = m'.sp := (sameSp_iff _ _).1 (by simpa using h)
      repeat (first | refine zz ?_ | refine zx fun _ => ?_)
      refine run_sub' (hnext _ _ _ ⟨hlt, rfl, ?_, rfl, rfl⟩) ⟨lk_succ rfl (by omega), rfl, rfl, trivial⟩
      rw [take_snoc hms, take_snoc hms', heqs, hmm]
  have hge : j = x.steps.len := by simp at h; omega
  subst hge
  rw [List.take_of_length_le (by rw [List.length_map]; omega), List.take_of_length_le (by rw [List.length_map]; omega)] at heqs
  have hrt : r = true := hr2.2 ⟨heq, heqs⟩
  subst hrt
  repeat (first | refine zz ?_ | refine zx fun _ => ?_)
  exact run_ret hC (rs := [.tmp 4]) rfl (resT rfl resN) (fun _ h => h.drop.drop) ⟨rfl, rfl, rfl⟩
end Go.Proofs.YtladcmfbkiogbaaGreatDoor
namespace Go.Proofs.YtladcmfbkiogbaaGreatDoor
open Go.Chi
set_option maxRecDepth 10000
end Go.Proofs.YtladcmfbkiogbaaGreatDoor
namespace Go.Proofs.YtladcmfbkiogbaaGreatDoor
open Go.Chi Go.Lib
set_option maxRecDepth 10000
theorem strs_at {M : Mem} {b : Nat} {xs : List ByteArray} (n : Nat) (hn : xs.length = n) (h6 : n < 1000000) (h : M.blk b = some (.cells ⟨xs.map Value.string⟩ 9 (0, 0))) : StOk M ⟨some ⟨b, 0, none⟩, n, n, xs⟩ := by
  subst hn
  have hsl := SlM.ofBlk (size := 1) (ls := xs.map stC) h (strs_flat xs) (fun l hl => by obtain ⟨x, _, rfl⟩ := List.mem_map.1 hl; rfl)
  rw [List.length_map] at hsl
  exact ⟨hsl, h6⟩
theorem names_ok (M : Mem) (L : HL) : Tr Tryz.prog 28 [] M L (fun v M' L' => M.le M' ∧ L' = L ∧ ∃ b, v = .slice (some ⟨b, 0, none⟩) 3 3 ∧ StOk M' ⟨some ⟨b, 0, none⟩, 3, 3, nm3⟩) := by
  refine Tr.intro 2 Tryz.func28 rfl rfl Tryz.call28 rfl ?_; intro C hC hro
  repeat (first | refine yy ?_ | refine yx fun _ => ?_)
  refine run_frzL [_] fun M1 hM1 hb => ?_
  exact run_ret hC (rs := [.tmp 0]) rfl (resT rfl resN) (fun _ h => h) ⟨hM1, rfl, _, rfl, strs_at (xs := nm3) 3 rfl (by decide) (hb _ List.mem_cons_self)⟩
theorem nm3_sz : ∀ x ∈ nm3, x.size < 1000000 := by decide
theorem kot_sz : ∀ x ∈ kot2, x.size < 1000000 := by decide
set_option maxHeartbeats 16000000 in
theorem alive_ok (M : Mem) (L : HL) (hG : G38 M) : Tr Tryz.prog 10 [] M L (fun v M' L' => M.le M' ∧ L' = L ∧ v = .bool true) := by
  refine Tr.intro 77 Tryz.func10 rfl rfl Tryz.call10 rfl ?_; intro C hC hro
  refine run_seq ?_
  (refine run_region ?_; (repeat (first | refine zq ?_ | refine zx fun _ => ?_)); refine runL_nil ?_)
  refine run_seq ?_
  refine run_region ?_
  refine oc (names_ok _ _) ?_
  rintro _ M1 _ ⟨hM1, rfl, b1, rfl, hS1⟩
  repeat (first | refine yy ?_ | refine yx fun _ => ?_)
  rename_i b2
  refine runL_frzL [_] fun M2 hM2 hb2 => ?_
  have hM12 := Mem.le_trans hM1 hM2
  have hgv : MbOk M2 ⟨some ⟨b2, 0, none⟩, 1, 1, [⟨1, ⟨#[100, 2, 104, 105]⟩⟩]⟩ := ⟨SlM.ofBlk (size := 2) (ls := [mbC ⟨1, ⟨#[100, 2, 104, 105]⟩⟩]) (hb2 _ List.mem_cons_self) rfl (fun l hl => by obtain rfl := List.mem_singleton.1 hl; rfl), by show (1 : Nat) < 1000000; decide⟩
  have hax : AxOk M2 ⟨1, 0, 2, 0, ⟨some ⟨b2, 0, none⟩, 1, 1, [⟨1, ⟨#[100, 2, 104, 105]⟩⟩]⟩, tz, false, noS⟩ := ⟨hgv, noS_ok _, fun m hm => by obtain rfl := List.mem_singleton.1 hm; show (4 : Nat) < 1099511627776; decide⟩
  have hln := fun L => tline_ok M2 L (hG.le hM12) _ (hS1.le hM2) (Nat.le_refl _) nm3_sz _ hax
  have e1 : ∀ g, lineA nm3 (Ax.aa ⟨1, 0, 2, 0, g, tz, false, noS⟩) = lineA nm3 ⟨1, 0, 2, 0, g.xs, tz, false, []⟩ := fun _ => rfl
  rw [e1] at hln
  have e2 : lineA nm3 ⟨1, 0, 2, 0, [⟨1, ⟨#[100, 2, 104, 105]⟩⟩], tz, false, []⟩ = (exS1, 0) := al_line
  rw [e2] at hln
  refine qc (hln _) ?_
  repeat (first | refine yy ?_ | refine yx fun _ => ?_)
  refine run_cond (t := !(exS1.toList == exS1.toList) || ((0 : Int) != 0)) rfl (fun h => by rw [bytes_beq] at h; simp at h) (fun _ => ?_)
  repeat (first | refine zc ?_)
  refine oc (names_ok _ _) ?_
  rintro _ M3 _ ⟨hM3, rfl, b3, rfl, hS3⟩
  have hM13 := Mem.le_trans hM12 hM3
  have hpr := fun L => tparse_ok M3 L (hG.le hM13) _ hS3 (Nat.le_refl _) nm3_sz exS2 (by decide)
  dsimp only at hpr
  rw [al_parse] at hpr
  refine oc (hpr _) ?_
  rintro _ M4 _ ⟨hM4, rfl, ax2, hax2, haa2, rfl⟩
  have hM14 := Mem.le_trans hM13 hM4
  repeat (first | refine yy ?_ | refine yx fun _ => ?_)
  rename_i b4
  refine qc (refSameAct_ok _ _ ax2 ⟨2, 1, 0, 0, noG, ⟨0, 1, 2⟩, true, noS⟩ hax2 axTx_ok true (by rw [haa2]; exact ⟨fun _ => rfl, fun _ => rfl⟩)) ?_
  repeat (first | refine yk ?_ | refine yx fun _ => ?_)
  refine run_cond (t := false) rfl (fun h => by cases h) (fun _ => ?_)
  repeat (first | refine zc ?_)
  refine oc (names_ok _ _) ?_
  rintro _ M5 _ ⟨hM5, rfl, b5, rfl, hS5⟩
  have hM15 := Mem.le_trans hM14 hM5
  have hrd := fun L => tread_ok M5 L (hG.le hM15) _ hS5 (Nat.le_refl _) nm3_sz exS3 (by decide)
  dsimp only at hrd
  rw [al_read] at hrd
  refine oc (hrd _) ?_
  rintro _ M6 _ ⟨hM6, rfl, A, hA, hAx, hAc, rfl⟩
  have hA0 : A.len = 0 := by
    have := hA.len
    have h2 := congrArg List.length hAx
    rw [List.length_map] at h2
    exact this.symm.trans h2
  have hM16 := Mem.le_trans hM15 hM6
  repeat (first | refine yy ?_ | refine yx fun _ => ?_)
  refine oc (names_ok _ _) ?_
  rintro _ M7 _ ⟨hM7, rfl, b7, rfl, hS7⟩
  have hM17 := Mem.le_trans hM16 hM7
  have hnt := fun L => tnote_ok M7 L (hG.le hM17) _ hS7 (Nat.le_refl _) nm3_sz 0 tz 2
  dsimp only at hnt
  rw [al_note] at hnt
  refine yy ?_
  refine qc (hnt _) ?_
  obtain ⟨aa, al, ac, axs⟩ := A
  obtain rfl : al = 0 := hA0
  repeat (first | refine yk ?_ | refine yx fun _ => ?_)
  refine runL_as 67 (.bool true) rfl (by
    congr 1
    show ((true && (exS4.toList == exS4.toList)) && true) = true
    rw [bytes_beq]; simp) ?_
  refine yx fun b8 => ?_
  refine runL_frzL [_] fun M8 hM8 hb8 => ?_
  have hM18 := Mem.le_trans hM17 hM8
  have hk := fun L => roll_ok M8 L ⟨some ⟨b8, 0, none⟩, 2, 2, kot2⟩ (strs_at (xs := kot2) 2 rfl (by decide) (hb8 _ List.mem_cons_self)) (Nat.le_refl _) kot_sz
  have hkn : ¬ rollB kot2 = true := by rw [al_kot]; decide
  dsimp only at hk
  rw [if_neg hkn] at hk
  refine kc (hk _) ?_
  repeat (first | refine yk ?_ | refine yx fun _ => ?_)
  refine ok (names_ok _ _) ?_
  rintro _ M9 _ ⟨hM9, rfl, b9, rfl, hS9⟩
  have hk3 := fun L => roll_ok M9 L _ hS9 (Nat.le_refl _) nm3_sz
  dsimp only at hk3
  rw [if_pos al_roll] at hk3
  refine kc (hk3 _) ?_
  repeat (first | refine yk ?_ | refine yx fun _ => ?_)
  exact run_ret hC (rs := [.tmp 0]) rfl (resT rfl resN) (fun _ h => h.drop) ⟨Mem.le_trans hM18 hM9, rfl, rfl⟩
def longA (names : List ByteArray) (s : ByteArray) : Bool := decide (20 < names.length) || (decide (8192 < s.size) || names.any fun x => decide (256 < x.size))
theorem longA_no {names : List ByteArray} {s : ByteArray} (h : longA names s = false) : names.length ≤ 20 ∧ s.size ≤ 8192 ∧ ∀ x ∈ names, x.size ≤ 256 := by
  simp only [longA, Bool.or_eq_false_iff, decide_eq_false_iff_not, List.any_eq_false, decide_eq_true_eq] at h
  exact ⟨by omega, by omega, fun x hx => by have := h.2.2 x hx; omega⟩
set_option maxHeartbeats 4000000 in
theorem long_ok (M : Mem) (L : HL) (S : SStr) (hS : S.Ok M) (s : ByteArray) : TrQ Tryz.prog 8 [S.v, .string s] M L (.bool (longA S.xs s)) := by
  have hl : S.xs.length = S.len := by have := hS.1; simpa using this
  refine Tr.intro 26 Tryz.func8 rfl rfl Tryz.call8 rfl ?_; intro C hC hro
  repeat (first | refine yy ?_ | refine yx fun _ => ?_)
  refine run_cond (t := decide ((S.len : Int) > 20) || decide ((s.size : Int) > 8192)) rfl (fun h => ?_) (fun h => ?_)
  · repeat (first | refine yy ?_ | refine yx fun _ => ?_)
    exact run_ret hC (rs := [.tmp 4]) rfl (resT rfl resN) (fun _ h => h) ⟨by
      have : longA S.xs s = true := by
        simp only [Bool.or_eq_true, decide_eq_true_eq] at h
        rw [longA, hl]
        rcases h with h | h
        · rw [decide_eq_true (by omega)]; rfl
        · rw [decide_eq_true (by omega : 8192 < s.size)]; simp
      rw [this]; rfl, rfl, rfl⟩
  simp only [Bool.or_eq_false_iff, decide_eq_false_iff_not] at h
  have hlo : longA S.xs s = S.xs.any fun x => decide (256 < x.size) := by
    rw [longA, hl, decide_eq_false (by omega), decide_eq_false (by omega)]; rfl
  rw [hlo] at hC
  repeat (first | refine yy ?_ | refine yx fun _ => ?_)
  refine run_loopN (fun j σ1 M1 L1 => j ≤ S.len ∧ M = M1 ∧ L = L1 ∧ ((S.xs.take j).any fun x => decide (256 < x.size)) = false ∧ σ1 = [(5, iv j), (0, S.v)]) S.len [(5, iv 0), (0, S.v)] ?_ ⟨Nat.zero_le _, rfl, rfl, rfl, rfl⟩ (fun j _ _ _ h => h.1) ?_
  · exact ⟨rfl, rfl, trivial⟩
  rintro j _ _ _ ⟨hj, rfl, rfl, hno, rfl⟩ hnext
  repeat (first | refine yy ?_ | refine yx fun _ => ?_)
  refine run_cond (t := decide ((j : Int) < (S.len : Int))) rfl (fun h2 => ?_) (fun h2 => ?_)
  · have hlt : j < S.len := by have := of_decide_eq_true h2; omega
    obtain ⟨b, off, x, ha, hx, hc⟩ := SStr.at_ hS hlt
    have hv : S.v = .slice (some ⟨b, off, none⟩) S.len S.cap := by rw [← ha]; rfl
    refine run_as 0 (.slice (some ⟨b, off, none⟩) S.len S.cap) rfl hv ?_
    repeat (first | refine yy ?_ | refine yx fun _ => ?_)
    refine run_cond (t := decide ((x.size : Int) > 256)) rfl (fun h3 => ?_) (fun h3 => ?_)
    · have : (S.xs.any fun x => decide (256 < x.size)) = true := List.any_eq_true.2 ⟨x, List.mem_of_getElem? hx, by have := of_decide_eq_true h3; exact decide_eq_true (by omega)⟩
      rw [this] at hC
      repeat (first | refine yy ?_ | refine yx fun _ => ?_)
      exact run_ret hC (rs := [.tmp 4]) rfl (resT rfl resN) (fun _ h => h) ⟨rfl, rfl, rfl⟩
    · repeat (first | refine yy ?_ | refine yx fun _ => ?_)
      refine run_sub' (hnext _ _ _ ⟨hlt, rfl, rfl, ?_, rfl⟩) ⟨lk_succ rfl (by omega), by rw [hv]; rfl, trivial⟩
      rw [take_snoc hx, List.any_append, hno]
      have := of_decide_eq_false h3
      simp; omega
  · have hge : j = S.len := by have := of_decide_eq_false h2; omega
    rw [List.take_of_length_le (by omega)] at hno
    rw [hno] at hC
    repeat (first | refine yy ?_ | refine yx fun _ => ?_)
    exact run_ret hC (rs := [.tmp 4]) rfl (resT rfl resN) (fun _ h => h) ⟨rfl, rfl, rfl⟩
end Go.Proofs.YtladcmfbkiogbaaGreatDoor
namespace Go.Proofs.YtladcmfbkiogbaaGreatDoor
open Go.Chi
set_option maxRecDepth 10000
set_option maxRecDepth 10000
end Go.Proofs.YtladcmfbkiogbaaGreatDoor
namespace Go.Proofs.YtladcmfbkiogbaaGreatDoor
open Go.Chi
set_option maxRecDepth 10000
set_option maxRecDepth 10000
end Go.Proofs.YtladcmfbkiogbaaGreatDoor
namespace Go.Proofs.YtladcmfbkiogbaaGreatDoor
open Go.Chi Go.Lib
theorem ixN_at {x : ByteArray} : ∀ {l : List ByteArray}, ixN x l < l.length → l[ixN x l]? = some x
  | [], h => by simp [ixN] at h
  | y :: l, h => by
    have hc : ixN x (y :: l) = if x = y then 0 else ixN x l + 1 := by
      rw [ixN, List.takeWhile_cons]
      by_cases e : x = y <;> simp [e, ixN]
    rw [hc] at h ⊢
    by_cases e : x = y
    · rw [if_pos e, e]; rfl
    · rw [if_neg e] at h ⊢
      rw [List.getElem?_cons_succ]
      exact ixN_at (by simpa using h)
theorem roll_apart {b : List ByteArray} (hb : rollB b = true) {i j : Nat} {x y : ByteArray} (hi : b[i]? = some x) (hj : b[j]? = some y) (hl : lookL x = lookL y) : i = j := by
  rw [rollB, Bool.and_eq_true, Bool.not_eq_true', List.any_eq_false] at hb
  obtain ⟨hf, hno⟩ := hb
  have hbad : ∀ z ∈ b, checkN z = 0 := fun z hz => by
    rw [fineB, Bool.and_eq_true, Bool.not_eq_true', List.any_eq_false] at hf
    have := hf.2 z hz
    simpa [badN] using this
  have key : ∀ {k j : Nat} {x y : ByteArray}, b[k]? = some x → b[j]? = some y → lookL x = lookL y → ¬ j < k := fun {k j x y} hk hj hl hjk => by
    have hm := List.mem_of_getElem? (prs_at hk hj hjk)
    have h1 := hno _ hm
    have hx := hbad x (List.mem_of_getElem? hk)
    have hy := hbad y (List.mem_of_getElem? hj)
    have hs : skelB y = skelB x := by rw [skelB, skelB, hl]
    apply h1
    rw [likeB]
    by_cases e : y = x
    · simp [e]
    · simp [clashB, hx, hy, e, hs]
  have h1 := key hi hj hl
  have h2 := key hj hi hl.symm
  omega
section
variable {a b : List ByteArray} (hb : rollB b = true) (hab : a.map lookL = b.map lookL)
include hb hab
end
end Go.Proofs.YtladcmfbkiogbaaGreatDoor
namespace Go.Proofs.YtladcmfbkiogbaaGreatDoor
open Go.Chi Go.Lib
theorem mem_tw {α : Type} {p : α → Bool} : ∀ {l : List α} {x : α}, x ∈ l.takeWhile p → p x = true
  | [], _, h => by cases h
  | y :: l, x, h => by
    rw [List.takeWhile_cons] at h
    split at h
    · rename_i hy
      rcases List.mem_cons.1 h with rfl | h
      · exact hy
      · exact mem_tw h
    · cases h
theorem app_list (a b : ByteArray) : (a ++ b).data.toList = a.data.toList ++ b.data.toList := by simp
theorem preB_app (p r : ByteArray) : preB (p ++ r) p = true := by
  unfold preB
  rw [app_list]
  exact List.isPrefixOf_iff_prefix.2 (List.prefix_append _ _)
theorem nextR_app (p r : ByteArray) : nextR (p ++ r) p = r := by rw [nextR, if_pos (preB_app p r), ext_right]
theorem hear_app (p r : ByteArray) : hearO (p ++ r) p = some ((), r) := by rw [hearO, if_pos (preB_app p r), nextR_app]
def Stp (z r : ByteArray) : Prop := r = ⟨#[]⟩ ∨ ∃ b l, r.data.toList = b :: l ∧ b ∈ z.data.toList
theorem Stp.nil (z : ByteArray) : Stp z ⟨#[]⟩ := .inl rfl
theorem Stp.app {z p : ByteArray} (r : ByteArray) (h : ∃ b l, p.data.toList = b :: l ∧ b ∈ z.data.toList) : Stp z (p ++ r) := by
  obtain ⟨b, l, h1, h2⟩ := h
  exact .inr ⟨b, l ++ r.data.toList, by rw [app_list, h1]; rfl, h2⟩
theorem noQ_hi {z : ByteArray} (_ : Signs z) (r : Int) (hr : 128 ≤ r) : noQ z r = true := by
  unfold noQ runeIxG
  rw [if_neg (by omega)]
  decide
theorem tw_app {q : Int → Bool} {l r : List UInt8} (hl : ∀ b ∈ l, q (b.toNat : Int) = true) (hr : r = [] ∨ ∃ b t, r = b :: t ∧ q (b.toNat : Int) = false) : twL q (l ++ r) = l := by
  induction l with
  | nil =>
    rcases hr with rfl | ⟨b, t, rfl, hb⟩
    · rfl
    · rw [List.nil_append, twL, List.takeWhile_cons, if_neg (by rw [hb]; decide)]
  | cons x l ih =>
    rw [List.cons_append, twL, List.takeWhile_cons, if_pos (hl x List.mem_cons_self)]
    exact congrArg _ (ih fun b hb => hl b (List.mem_cons_of_mem _ hb))
theorem word_app {z w r : ByteArray} (h : Signs z) (hw : ∀ b ∈ w.data.toList, b ∉ z.data.toList) (hr : Stp z r) : wordO (w ++ r) z = (w, r) := by
  have hn : wordN (w ++ r) z = w.size := by
    rw [wordN, while_no _ _ (noQ_hi h), app_list, tw_app, ba_len]
    · intro b hb
      rw [noQ_b h, Bool.not_eq_true', List.contains_eq_mem, decide_eq_false_iff_not]
      exact hw b hb
    · rcases hr with rfl | ⟨b, l, h1, h2⟩
      · exact .inl rfl
      · exact .inr ⟨b, l, h1, by rw [noQ_b h, List.contains_eq_mem, decide_eq_true h2]; rfl⟩
  rw [wordO, hn, ext_left, ext_right]
theorem fst_odd : ∀ (l : List Nat) (k e : Int), (fstF l k e).2 = 0 → ∀ r ∈ l, oddR r = false
  | [], _, _, _, r, hr => by cases hr
  | x :: l, k, e, h, r, hr => by
    rw [fstF] at h
    split at h
    · cases h
    rename_i hx
    have ih : ∀ r ∈ l, oddR r = false := by
      split at h
      · exact fst_odd l _ _ h
      split at h
      · exact fst_odd l _ _ h
      · exact fst_odd l _ _ h
    rcases List.mem_cons.1 hr with rfl | hr
    · simpa using hx
    · exact ih r hr
theorem name_odd {s : ByteArray} (h : checkN s = 0) : s ≠ ⟨#[]⟩ ∧ ∀ r ∈ runesL s, oddR r = false := by
  unfold checkN firstN at h
  split at h
  · cases h
  split at h
  · cases h
  rename_i h2
  split at h
  · rename_i h3; exact absurd h h3
  rename_i h3
  refine ⟨fun e => h2 (.inl (by rw [e]; rfl)), fst_odd _ 0 0 (by simpa using h3)⟩
theorem whF_all {q : Int → Bool} : ∀ (l : List (Nat × Nat)) (e : Nat), (∀ x ∈ l, q (x.2 : Int) = true) → whF q l e = e
  | [], _, _ => rfl
  | x :: l, e, h => by rw [whF, if_pos (h x List.mem_cons_self)]; exact whF_all l e fun y hy => h y (List.mem_cons_of_mem _ hy)
theorem runes_bytes {s : ByteArray} {q : Int → Bool} (hq : ∀ r : Int, 128 ≤ r → q r = true) (h : ∀ r ∈ runesL s, q (r : Int) = true) : ∀ b ∈ s.data.toList, q (b.toNat : Int) = true := by
  have h1 : whileN s q = s.size := whF_all _ _ fun x hx => h x.2 (List.mem_map_of_mem hx)
  rw [while_no s q hq, twL, ← ba_len] at h1
  intro b hb
  have h2 := (List.takeWhile_sublist (l := s.data.toList) fun b => q (b.toNat : Int)).eq_of_length h1
  rw [← h2] at hb
  exact mem_tw (p := fun b : UInt8 => q (b.toNat : Int)) hb
theorem name_sign {s : ByteArray} (h : checkN s = 0) : ∀ b ∈ s.data.toList, b ∉ sgOrg.data.toList := by
  have := runes_bytes (noQ_hi sgOrg_ok) (s := s) fun r hr => by
    have ho := (name_odd h).2 r hr
    by_cases h128 : 128 ≤ (r : Int)
    · exact noQ_hi sgOrg_ok _ h128
    · have hb : (r : Int) = (((r.toUInt8).toNat : Nat) : Int) := by
        rw [Nat.toUInt8_eq, UInt8.toNat_ofNat']; omega
      rw [hb, noQ_b sgOrg_ok, Bool.not_eq_true', List.contains_eq_mem, decide_eq_false_iff_not]
      intro hm
      have hm2 : r.toUInt8 = 32 ∨ r.toUInt8 = 58 ∨ r.toUInt8 = 59 ∨ r.toUInt8 = 47 ∨ r.toUInt8 = 43 := by simpa [sgOrg] using hm
      have hr2 : r = 32 ∨ r = 58 ∨ r = 59 ∨ r = 47 ∨ r = 43 := by
        rcases hm2 with e | e | e | e | e <;> (have := congrArg UInt8.toNat e; rw [Nat.toUInt8_eq, UInt8.toNat_ofNat'] at this; simp at this; omega)
      rcases hr2 with rfl | rfl | rfl | rfl | rfl <;> exact absurd ho (by decide)
  intro b hb hm
  have := this b hb
  rw [noQ_b sgOrg_ok, Bool.not_eq_true', List.contains_eq_mem, decide_eq_false_iff_not] at this
  exact this hm
theorem roll_name {names : List ByteArray} (h : rollB names = true) : ∀ z ∈ names, checkN z = 0 := fun z hz => by
  rw [rollB, Bool.and_eq_true, fineB, Bool.and_eq_true, Bool.not_eq_true', List.any_eq_false] at h
  simpa [badN] using h.1.2 z hz
theorem org_app {names : List ByteArray} (hn : rollB names = true) {k : Nat} {o r : ByteArray} (hk : orgV names k = some o) (hr : Stp sgOrg r) : orgO names (o ++ r) = some (k, r) := by
  have hm := List.mem_of_getElem? hk
  have hc := roll_name hn o hm
  rw [orgO, word_app sgOrg_ok (name_sign hc) hr]
  have hlt : ixN o names < names.length := by
    rw [ixN]
    refine Nat.lt_of_le_of_ne (List.takeWhile_sublist _).length_le fun e => ?_
    have h2 := (List.takeWhile_sublist (l := names) fun y => decide (o ≠ y)).eq_of_length e
    rw [← h2] at hm
    have := mem_tw (p := fun y => decide (o ≠ y)) hm
    simp at this
  rw [if_pos hlt, roll_apart hn (ixN_at hlt) hk rfl]
theorem dec_digit : ∀ (n : Nat) (b : UInt8), b ∈ decDigits n → 48 ≤ b.toNat ∧ b.toNat ≤ 57 := by
  intro n
  induction n using Nat.strongRecOn with
  | ind n ih =>
    intro b hb
    have hone : ∀ u, u < 10 → b = UInt8.ofNat (48 + u) → 48 ≤ b.toNat ∧ b.toNat ≤ 57 := fun u hu e => by
      rw [e, UInt8.toNat_ofNat']; omega
    rw [decDigits] at hb
    split at hb
    · exact hone n (by assumption) (List.mem_singleton.1 hb)
    · rcases List.mem_append.1 hb with hb | hb
      · exact ih (n / 10) (by omega) b hb
      · exact hone (n % 10) (by omega) (List.mem_singleton.1 hb)
theorem dec_ne (n : Nat) : decDigits n ≠ [] := by
  rw [decDigits]
  split
  · simp
  · simp
theorem decFrom_app : ∀ (l r : List UInt8) (a : Nat), decFrom a (l ++ r) = (decFrom a l).bind fun x => decFrom x r
  | [], r, a => rfl
  | b :: l, r, a => by
    rw [List.cons_append, decFrom, decFrom]
    cases digitVal b with
    | none => rfl
    | some d => exact decFrom_app l r _
theorem digit_val : ∀ u : Fin 10, digitVal (UInt8.ofNat (48 + u.val)) = some u.val := by decide
theorem decFrom_dec : ∀ n : Nat, decFrom 0 (decDigits n) = some n := by
  intro n
  induction n using Nat.strongRecOn with
  | ind n ih =>
    rw [decDigits]
    split
    · rename_i h
      rw [decFrom, digit_val ⟨n, h⟩]
      show some (0 * 10 + n) = _
      rw [Nat.zero_mul, Nat.zero_add]
    · rename_i h
      rw [decFrom_app, ih (n / 10) (by omega), Option.bind_some, decFrom, digit_val ⟨n % 10, by omega⟩]
      show some (n / 10 * 10 + n % 10) = _
      congr 1; omega
theorem atoi_dec {n : Nat} (h : n < 1000000000000000000) : atoiAll (decDigits n) = .ok (n : Int) := by
  rw [atoiAll_short _ (dec_le 17 n (by omega))]
  have hdn : decNat (decDigits n) = some n := by
    rw [decNat, if_neg (by simp [dec_ne]), decFrom_dec]
  have hat : atoi (decDigits n) = some (n : Int) := by
    cases hl : decDigits n with
    | nil => exact absurd hl (dec_ne n)
    | cons b r =>
      have hb := dec_digit n b (by rw [hl]; exact List.mem_cons_self)
      have h45 : (b == 45) = false := by
        rw [beq_eq_false_iff_ne]; rintro rfl; exact absurd hb.1 (by decide)
      have h43 : (b == 43) = false := by
        rw [beq_eq_false_iff_ne]; rintro rfl; exact absurd hb.1 (by decide)
      rw [atoi, h45, h43, if_neg (by decide), if_neg (by decide), ← hl, hdn]
      rfl
  rw [hat]
  rfl
theorem num_app {most : Nat} {n : Int} {r : ByteArray} (_ : 0 ≤ n) (h1 : n ≤ (most : Int)) (hm : most < 1000000000000000000) (hr : Stp sgNum r) : numO most (dgB n ++ r) = some (n.toNat, r) := by
  have hw : wordO (dgB n ++ r) sgNum = (dgB n, r) := by
    refine word_app sgNum_ok (fun b hb hs => ?_) hr
    have hd := dec_digit n.toNat b hb
    have : b = 32 ∨ b = 47 ∨ b = 43 := by simpa [sgNum] using hs
    rcases this with rfl | rfl | rfl <;> exact absurd hd.1 (by decide)
  have ha : atoiAll (dgB n).data.toList = .ok (n.toNat : Int) := atoi_dec (by omega)
  have hl : numL most (dgB n) = some n.toNat := by
    rw [numL, ha]
    exact if_pos ⟨by omega, by omega, by rw [Int.toNat_natCast]; rfl⟩
  rw [numO, hw, hl]
  rfl
end Go.Proofs.YtladcmfbkiogbaaGreatDoor
namespace Go.Proofs.YtladcmfbkiogbaaGreatDoor
open Go.Chi Go.Lib
section
variable {n b0 b1 b2 b3 : Nat}
theorem dec2 (k0 : ¬ b0 < 128) (h : b0 / 32 = 6 ∧ (1 < n ∧ b1 / 64 = 2)) : decodeN n b0 b1 b2 b3 = (if b0 % 32 * 64 + b1 % 64 ≥ 128 then (b0 % 32 * 64 + b1 % 64, 2) else (65533, 1)) := by
  unfold decodeN; rw [if_neg k0, if_pos h]
theorem dec3 (k0 : ¬ b0 < 128) (k1 : ¬ (b0 / 32 = 6 ∧ (1 < n ∧ b1 / 64 = 2))) (h : b0 / 16 = 14 ∧ (1 < n ∧ b1 / 64 = 2) ∧ (2 < n ∧ b2 / 64 = 2)) : ∃ x, decodeN n b0 b1 b2 b3 = x ∧ x.2 ≤ 3 ∧ ∀ n' c3, (b0 / 16 = 14 ∧ (1 < n' ∧ b1 / 64 = 2) ∧ (2 < n' ∧ b2 / 64 = 2)) → ¬ (b0 / 32 = 6 ∧ (1 < n' ∧ b1 / 64 = 2)) → decodeN n' b0 b1 b2 c3 = x := by
  unfold decodeN
  rw [if_neg k0, if_neg k1, if_pos h]
  refine ⟨_, rfl, by split <;> simp, fun n' c3 h' k' => ?_⟩
  rw [if_neg k0, if_neg k', if_pos h']
theorem dec4 (k0 : ¬ b0 < 128) (k1 : ¬ (b0 / 32 = 6 ∧ (1 < n ∧ b1 / 64 = 2))) (k2 : ¬ (b0 / 16 = 14 ∧ (1 < n ∧ b1 / 64 = 2) ∧ (2 < n ∧ b2 / 64 = 2))) (h : b0 / 8 = 30 ∧ (1 < n ∧ b1 / 64 = 2) ∧ (2 < n ∧ b2 / 64 = 2) ∧ (3 < n ∧ b3 / 64 = 2)) : ∃ x, decodeN n b0 b1 b2 b3 = x ∧ x.2 ≤ 4 ∧ ∀ n', (b0 / 8 = 30 ∧ (1 < n' ∧ b1 / 64 = 2) ∧ (2 < n' ∧ b2 / 64 = 2) ∧ (3 < n' ∧ b3 / 64 = 2)) → ¬ (b0 / 32 = 6 ∧ (1 < n' ∧ b1 / 64 = 2)) → ¬ (b0 / 16 = 14 ∧ (1 < n' ∧ b1 / 64 = 2) ∧ (2 < n' ∧ b2 / 64 = 2)) → decodeN n' b0 b1 b2 b3 = x := by
  unfold decodeN
  rw [if_neg k0, if_neg k1, if_neg k2, if_pos h]
  refine ⟨_, rfl, by split <;> simp, fun n' h' k1' k2' => ?_⟩
  rw [if_neg k0, if_neg k1', if_neg k2', if_pos h']
theorem decX (k0 : ¬ b0 < 128) (k1 : ¬ (b0 / 32 = 6 ∧ (1 < n ∧ b1 / 64 = 2))) (k2 : ¬ (b0 / 16 = 14 ∧ (1 < n ∧ b1 / 64 = 2) ∧ (2 < n ∧ b2 / 64 = 2))) (k3 : ¬ (b0 / 8 = 30 ∧ (1 < n ∧ b1 / 64 = 2) ∧ (2 < n ∧ b2 / 64 = 2) ∧ (3 < n ∧ b3 / 64 = 2))) : decodeN n b0 b1 b2 b3 = (65533, 1) := by
  unfold decodeN; rw [if_neg k0, if_neg k1, if_neg k2, if_neg k3]
theorem decodeN_more {n' c1 c2 c3 : Nat} (h : (decodeN n b0 b1 b2 b3).1 ≠ 65533) (h0 : 1 ≤ n) (hn : n ≤ n') (h1 : 1 < n → c1 = b1) (h2 : 2 < n → c2 = b2) (h3 : 3 < n → c3 = b3) :
    decodeN n' b0 c1 c2 c3 = decodeN n b0 b1 b2 b3 ∧ (decodeN n b0 b1 b2 b3).2 ≤ n := by
  by_cases k0 : b0 < 128
  · unfold decodeN; rw [if_pos k0, if_pos k0]; exact ⟨rfl, h0⟩
  by_cases k1 : b0 / 32 = 6 ∧ (1 < n ∧ b1 / 64 = 2)
  · obtain rfl := h1 k1.2.1
    rw [dec2 k0 k1, dec2 k0 ⟨k1.1, by omega, k1.2.2⟩]
    exact ⟨rfl, by split <;> simp <;> omega⟩
  by_cases k2 : b0 / 16 = 14 ∧ (1 < n ∧ b1 / 64 = 2) ∧ (2 < n ∧ b2 / 64 = 2)
  · obtain rfl := h1 k2.2.1.1
    obtain rfl := h2 k2.2.2.1
    obtain ⟨x, e1, e2, e3⟩ := dec3 (b3 := b3) k0 k1 k2
    rw [e1]
    exact ⟨e3 n' c3 ⟨k2.1, ⟨by omega, k2.2.1.2⟩, by omega, k2.2.2.2⟩ (fun e => by omega), by omega⟩
  by_cases k3 : b0 / 8 = 30 ∧ (1 < n ∧ b1 / 64 = 2) ∧ (2 < n ∧ b2 / 64 = 2) ∧ (3 < n ∧ b3 / 64 = 2)
  · obtain rfl := h1 k3.2.1.1
    obtain rfl := h2 k3.2.2.1.1
    obtain rfl := h3 k3.2.2.2.1
    obtain ⟨x, e1, e2, e3⟩ := dec4 k0 k1 k2 k3
    rw [e1]
    exact ⟨e3 n' ⟨k3.1, ⟨by omega, k3.2.1.2⟩, ⟨by omega, k3.2.2.1.2⟩, by omega, k3.2.2.2.2⟩ (fun e => by omega) (fun e => by omega), by omega⟩
  · rw [decX k0 k1 k2 k3] at h
    exact absurd rfl h
end
theorem get_app {x y : ByteArray} {p : Nat} (h : p < x.size) : (x ++ y).get! p = x.get! p := by
  show (x ++ y).data[p]! = x.data[p]!
  have h1 : p < x.data.size := h
  have h2 : p < (x ++ y).data.size := by have := app_size x y; show p < (x ++ y).size; omega
  rw [getElem!_pos (x ++ y).data p h2, getElem!_pos x.data p h1]
  have : (x ++ y).data.toList[p]? = x.data.toList[p]? := by rw [app_list, List.getElem?_append_left (by simpa using h1)]
  have e1 : (x ++ y).data.toList[p]? = some (x ++ y).data[p] := by rw [Array.getElem?_toList, getElem?_pos (x ++ y).data p h2]
  have e2 : x.data.toList[p]? = some x.data[p] := by rw [Array.getElem?_toList, getElem?_pos x.data p h1]
  rw [e1, e2] at this
  exact Option.some.inj this
theorem decode_app {x y : ByteArray} {p : Nat} (h : p < x.size) (hv : (Utf8.decode x p).1 ≠ 65533) : Utf8.decode (x ++ y) p = Utf8.decode x p ∧ p + (Utf8.decode x p).2 ≤ x.size := by
  rw [decode_at] at hv
  rw [decode_at, decode_at, get_app h]
  have hs := app_size x y
  obtain ⟨h1, h2⟩ := decodeN_more (n' := (x ++ y).size - p) (c1 := ((x ++ y).get! (p + 1)).toNat) (c2 := ((x ++ y).get! (p + 2)).toNat) (c3 := ((x ++ y).get! (p + 3)).toNat) hv (by omega) (by omega) (fun k => by rw [get_app (by omega)]) (fun k => by rw [get_app (by omega)]) (fun k => by rw [get_app (by omega)])
  exact ⟨h1, by omega⟩
theorem while_app {q : Int → Bool} (hq : q 65533 = false) {x y : ByteArray} (hx : whileN x q = x.size) (hy : x.size < (x ++ y).size → q ((Utf8.decode (x ++ y) x.size).1 : Int) = false) : whileN (x ++ y) q = x.size := by
  have hs := app_size x y
  have key : ∀ k p, p ≤ x.size → x.size - p ≤ k → whF q (rsF x p) x.size = x.size → whF q (rsF (x ++ y) p) (x ++ y).size = x.size := by
    intro k
    induction k with
    | zero =>
      intro p h1 h2 _
      obtain rfl : p = x.size := by omega
      by_cases h : x.size < (x ++ y).size
      · rw [rsF_lt h, whF, if_neg (by rw [hy h]; decide)]
      · rw [rsF_ge h, whF]; omega
    | succ k ih =>
      intro p h1 h2 h3
      by_cases hp : p < x.size
      · rw [rsF_lt hp, whF] at h3
        by_cases hc : q ((Utf8.decode x p).1 : Int) = true
        · rw [if_pos hc] at h3
          have hv : (Utf8.decode x p).1 ≠ 65533 := fun e => by
            rw [e] at hc
            have : q ((65533 : Nat) : Int) = false := hq
            rw [this] at hc; cases hc
          obtain ⟨h4, h5⟩ := decode_app (y := y) hp hv
          have hw := decode_wide x hp
          rw [rsF_lt (show p < (x ++ y).size by omega), whF, h4, if_pos hc]
          exact ih _ h5 (by omega) h3
        · rw [if_neg hc] at h3; omega
      · obtain rfl : p = x.size := by omega
        by_cases h : x.size < (x ++ y).size
        · rw [rsF_lt h, whF, if_neg (by rw [hy h]; decide)]
        · rw [rsF_ge h, whF]; omega
  exact key x.size 0 (Nat.zero_le _) (by omega) hx
end Go.Proofs.YtladcmfbkiogbaaGreatDoor
namespace Go.Proofs.YtladcmfbkiogbaaGreatDoor
open Go.Chi Go.Lib
def Rst (r : ByteArray) : Prop := Stp ⟨#[32, 59, 44, 41, 93]⟩ r
theorem Rst.out {r : ByteArray} (h : Rst r) {q : Int → Bool} (h1 : q 32 = false) (h2 : q 59 = false) (h3 : q 44 = false) (h4 : q 41 = false) (h5 : q 93 = false) : r.data.toList = [] ∨ ∃ b t, r.data.toList = b :: t ∧ q (b.toNat : Int) = false := by
  rcases h with rfl | ⟨b, l, e1, e2⟩
  · exact .inl rfl
  · refine .inr ⟨b, l, e1, ?_⟩
    have : b = 32 ∨ b = 59 ∨ b = 44 ∨ b = 41 ∨ b = 93 := by simpa using e2
    rcases this with rfl | rfl | rfl | rfl | rfl
    · exact h1
    · exact h2
    · exact h3
    · exact h4
    · exact h5
theorem pre_head {s p : ByteArray} {b c : UInt8} {l m : List UInt8} (hs : s.data.toList = b :: l) (hp : p.data.toList = c :: m) (h : b ≠ c) : preB s p = false := by
  rw [preB, hs, hp]
  show List.isPrefixOf (c :: m) (b :: l) = false
  rw [List.isPrefixOf]
  simp [Ne.symm h]
theorem prx {s : ByteArray} {b : UInt8} {l : List UInt8} (hs : s.data.toList = b :: l) (c : UInt8) (h : b ≠ c) : preB s ⟨#[c]⟩ = false := pre_head hs rfl h
theorem unhex_hex : ∀ l : List UInt8, unhex (hexL l) = l
  | [] => rfl
  | b :: l => by
    have key : ∀ n : Fin 256, (hvN (hexD (n.val.toUInt8.toNat / 16)) * 16 + hvN (hexD (n.val.toUInt8.toNat % 16))).toUInt8 = n.val.toUInt8 := by decide +kernel
    have := key ⟨b.toNat, b.toNat_lt⟩
    simp only [Nat.toUInt8_eq, UInt8.ofNat_toNat] at this
    rw [hexL, unhex, unhex_hex l]
    simp only [Nat.toUInt8_eq]
    rw [this]
theorem hex_is : ∀ l : List UInt8, ∀ b ∈ hexL l, hexQ (b.toNat : Int) = true
  | [], _, h => by cases h
  | x :: l, b, h => by
    have key : ∀ n : Fin 16, hexQ (((hexD n.val).toNat : Nat) : Int) = true := by decide +kernel
    rw [hexL, List.mem_cons, List.mem_cons] at h
    rcases h with rfl | rfl | h
    · exact key ⟨x.toNat / 16, by have := x.toNat_lt; omega⟩
    · exact key ⟨x.toNat % 16, by omega⟩
    · exact hex_is l b h
theorem bytes_back {x r : ByteArray} (hx : plainB x = false) (hr : Rst r) : bytesR (bs (hexL x.data.toList) ++ r) = some (x, r) := by
  have hw : whileN (bs (hexL x.data.toList) ++ r) hexQ = (bs (hexL x.data.toList)).size := by
    rw [while_tw _ _ hexQ_lt, app_list, tw_app, ba_len]
    · exact hex_is _
    · exact hr.out rfl rfl rfl rfl rfl
  have hl : (bs (hexL x.data.toList)).size = 2 * x.size := by
    have h1 := hexL_len x.data.toList
    rw [ba_len] at h1
    exact h1
  rw [bytesR, hw, if_pos (by omega), ext_left, ext_right]
  show (if plainB (bs (unhex (hexL x.data.toList))) = true then none else _) = _
  rw [unhex_hex, show bs x.data.toList = x from rfl, if_neg (by rw [hx]; decide)]
theorem quote_back {x r : ByteArray} (hx : plainB x = true) (h : x.size ≤ 1024) : quO (x ++ (⟨#[34]⟩ ++ r)) = some ((⟨#[100]⟩ : ByteArray) ++ textB x, r) := by
  have hw : whileN (x ++ (⟨#[34]⟩ ++ r)) plainR = x.size := by
    refine while_app (by decide) (by simpa [plainB] using hx) fun hlt => ?_
    have hb : (x ++ ((⟨#[34]⟩ : ByteArray) ++ r))[x.size]? = some 34 := by
      rw [ba_get, app_list, app_list, List.getElem?_append_right (by rw [ba_len]; exact Nat.le_refl _), ba_len, Nat.sub_self]
      rfl
    have hg : (x ++ ((⟨#[34]⟩ : ByteArray) ++ r))[x.size]'hlt = 34 := by
      rw [getElem?_pos (x ++ ((⟨#[34]⟩ : ByteArray) ++ r)) x.size hlt] at hb; exact Option.some.inj hb
    rw [decode_ascii _ _ hlt (by rw [hg]; decide), hg]
    decide
  rw [quO, hw, ext_left, ext_right, if_pos (preB_app _ _), nextR_app, dataE, if_neg (by omega)]
  rfl
theorem data_back {x r : ByteArray} (h : x.size ≤ 1024) (hr : Rst r) (f : Nat) : pT (f + 1) (datumB x ++ r) = some ((⟨#[100]⟩ : ByteArray) ++ textB x, r) := by
  by_cases hp : plainB x = true
  · have e : datumB x ++ r = (⟨#[34]⟩ : ByteArray) ++ (x ++ (⟨#[34]⟩ ++ r)) := by rw [datumB, if_pos hp]; simp only [app_assoc]
    have hd : (datumB x ++ r).data.toList = 34 :: (x ++ ((⟨#[34]⟩ : ByteArray) ++ r)).data.toList := by rw [e, app_list]; rfl
    rw [pT, if_neg (by rw [prx hd 36 (by decide)]; decide), if_neg (by rw [prx hd 120 (by decide)]; decide), e, if_pos (preB_app _ _), nextR_app, quote_back hp h]
  · have hp : plainB x = false := by simpa using hp
    have e : datumB x ++ r = (⟨#[120]⟩ : ByteArray) ++ (bs (hexL x.data.toList) ++ r) := by
      rw [datumB, if_neg (by rw [hp]; decide)]
      apply ba_ext
      simp only [app_list]
      rfl
    have hd : (datumB x ++ r).data.toList = 120 :: (bs (hexL x.data.toList) ++ r).data.toList := by rw [e, app_list]; rfl
    rw [pT, if_neg (by rw [prx hd 36 (by decide)]; decide), e, if_pos (preB_app _ _), nextR_app, bytes_back hp hr, Option.bind_some, dataE, if_neg (by show ¬ 1024 < x.size; omega)]
    rfl
theorem atom_abc : ∀ n : Fin 128, inAbc ((n.val : Nat) : Int) = true → atomQ ((n.val : Nat) : Int) = true := by decide +kernel
theorem named_atom {s : ByteArray} : ∀ f p, s.size < p + f → namedAt s f p = true → ∀ i, p ≤ i → ∀ b, s[i]? = some b → atomQ (b.toNat : Int) = true
  | 0, p, hf, _, i, hi, b, hb => by
    by_cases h : i < s.size
    · omega
    · rw [getElem?_neg s i h] at hb; cases hb
  | f + 1, p, hf, h, i, hi, b, hb => by
    have his : i < s.size := by
      apply Classical.byContradiction; intro h; rw [getElem?_neg s i h] at hb; cases hb
    have hp : p < s.size := by omega
    rw [namedAt, if_pos hp, Bool.and_eq_true] at h
    have hlow : (s[p]'hp).toNat < 128 := by
      apply Classical.byContradiction
      intro hn
      have := (decode_high s p hp (by omega)).1
      have h1 := h.1
      rw [inAbc, decide_eq_true_eq, runeIx, if_neg (by omega)] at h1
      omega
    rw [decode_ascii s p hp hlow] at h
    by_cases e : i = p
    · subst e
      rw [getElem?_pos s i hp] at hb
      cases hb
      exact atom_abc ⟨_, hlow⟩ h.1
    · exact named_atom f (p + 1) (by omega) h.2 i (by omega) b hb
theorem atomQ_lt (r : Int) (h : atomQ r = true) : r < 128 := by
  simp only [atomQ, Bool.or_eq_true, Bool.and_eq_true, decide_eq_true_eq, beq_iff_eq] at h
  omega
theorem atom_back {x r : ByteArray} (h : x.size ≤ 32) (hn : namedR x = true) (hr : Rst r) (f : Nat) : pT (f + 1) (((⟨#[36]⟩ : ByteArray) ++ x) ++ r) = some ((⟨#[97]⟩ : ByteArray) ++ textB x, r) := by
  have hall : ∀ b ∈ x.data.toList, atomQ (b.toNat : Int) = true := fun b hb => by
    obtain ⟨i, hi⟩ := List.getElem?_of_mem hb
    have hn1 := hn
    rw [namedR, Bool.and_eq_true] at hn1
    exact named_atom _ 0 (by omega) hn1.1 i (Nat.zero_le _) b (by rw [ba_get]; exact hi)
  have hw : whileN (x ++ r) atomQ = x.size := by
    rw [while_tw _ _ atomQ_lt, app_list, tw_app hall (hr.out rfl rfl rfl rfl rfl), ba_len]
  rw [pT, app_assoc, if_pos (preB_app _ _), nextR_app, atO, hw, ext_left, ext_right, atomE, if_neg (by omega), if_pos hn]
  rfl
end Go.Proofs.YtladcmfbkiogbaaGreatDoor
namespace Go.Proofs.YtladcmfbkiogbaaGreatDoor
open Go.Chi Go.Lib
theorem seq_rst {c : UInt8} (hc : c = 93 ∨ c = 41) (l : List ByteArray) (r : ByteArray) : Rst (seqC sepB false l ++ ((⟨#[c]⟩ : ByteArray) ++ r)) := by
  cases l with
  | nil =>
    rw [seqC, nil_app]
    refine Stp.app r ⟨c, [], rfl, ?_⟩
    rcases hc with rfl | rfl <;> decide
  | cons x l =>
    rw [seqC, if_neg (by decide), app_assoc, app_assoc]
    exact Stp.app _ ⟨44, [32], rfl, by decide⟩
theorem parts_back {T : RT} {f : ByteArray → ByteArray} {c : UInt8} (hc : c = 93 ∨ c = 41) : ∀ (ps : List ByteArray) (n : Nat) (first : Bool) (r : ByteArray), ps.length ≤ n → (∀ p ∈ ps, ∀ r, Rst r → T (f p ++ r) = some (p, r)) → (∀ p ∈ ps, ∃ b l, (f p).data.toList = b :: l ∧ b ≠ 93 ∧ b ≠ 41) →
    pP T ⟨#[c]⟩ n first (seqC sepB first (ps.map f) ++ ((⟨#[c]⟩ : ByteArray) ++ r)) = some (ps, r)
  | [], n, first, r, _, _, _ => by
    rw [List.map_nil, seqC, nil_app, pP_end (preB_app _ _), nextR_app]
  | p :: l, 0, _, _, h, _, _ => by simp at h
  | p :: l, n + 1, first, r, hn, hT, hh => by
    have ih := parts_back hc l n false r (by simpa using hn) (fun q hq => hT q (List.mem_cons_of_mem _ hq)) (fun q hq => hh q (List.mem_cons_of_mem _ hq))
    have hr := seq_rst hc (l.map f) r
    have hTp := hT p List.mem_cons_self _ hr
    obtain ⟨b, m, hb, hb1, hb2⟩ := hh p List.mem_cons_self
    have hbc : b ≠ c := by rcases hc with rfl | rfl <;> assumption
    generalize hrest : seqC sepB false (l.map f) ++ ((⟨#[c]⟩ : ByteArray) ++ r) = rest at *
    rw [List.map_cons, seqC, app_assoc, hrest, pP]
    cases first with
    | true =>
      rw [if_pos rfl, if_neg (by rw [prx (l := m ++ rest.data.toList) (by rw [app_list, hb]; rfl) c hbc]; decide), if_pos rfl, hTp, Option.bind_some, ih]
      rfl
    | false =>
      have hsc : (44 : UInt8) ≠ c := by rcases hc with rfl | rfl <;> decide
      rw [show (if (false = true) then f p else sepB ++ f p) = sepB ++ f p from rfl, app_assoc, if_neg (by rw [prx (b := 44) (l := 32 :: (f p ++ rest).data.toList) (by rw [app_list]; rfl) c hsc]; decide), if_neg (by decide), if_pos (preB_app _ _), nextR_app, hTp, Option.bind_some, ih]
      rfl
theorem kind_of {k : Nat} {t : ByteArray} (hk : k ≤ 16) (hT : Tm k t) (hz : t.size ≤ 16384) : mayB t = true ∧ kindN t = kindB (byte t 0) := by
  have h := (mayB_iff (t := t) (by omega)).2 ⟨hT.mono hk, hz⟩
  exact ⟨h, by rw [kindN, if_pos h]⟩
theorem text_of {c : Int} (hc : c = 100 ∨ c = 97) {x : ByteArray} (hx : x.size ≤ 1024) (h : mayB (bytesI [c] ++ textB x) = true) : (textN (bytesI [c] ++ textB x)).1 = x := by
  have hb : byte (bytesI [c] ++ textB x) 0 = c := byte0_one (by omega) (by omega) _
  rw [textN, if_pos ⟨h, by rw [hb]; exact hc⟩, rest1_one]
  have := text_read hx (by decide) ⟨#[]⟩
  rw [app_nil] at this
  rw [this]
theorem made_back {k : Nat} (hk : k ≤ 16) {hd : ByteArray} {ps : List ByteArray} (hT : Tm k (hd ++ cat ps)) (hps : ∀ p ∈ ps, Tm (k - 1) p) (hz : (hd ++ cat ps).size ≤ 16384) (r : ByteArray) : hadO (madeE hd ps) r = some (hd ++ cat ps, r) := by
  have h1 : ps.all mayB = true := List.all_eq_true.2 fun p hp => by
    have hpz := cat_mem hp
    rw [app_size] at hz
    exact (mayB_iff (by omega)).2 ⟨(hps p hp).mono (by omega), by omega⟩
  rw [madeE, if_pos h1, if_pos (kind_of hk hT hz).1]
  rfl
def LnB (k : Nat) (t : ByteArray) : Prop := (∀ r, Rst r → pT k (lineB k t ++ r) = some (t, r)) ∧ ∃ b l, (lineB k t).data.toList = b :: l ∧ b ≠ 93 ∧ b ≠ 41
theorem len2 {α : Type} : ∀ {l : List α}, l.length = 2 → ∃ a b, l = [a, b]
  | [a, b], _ => ⟨a, b, rfl⟩
theorem len3 {α : Type} : ∀ {l : List α}, l.length = 3 → ∃ a b c, l = [a, b, c]
  | [a, b, c], _ => ⟨a, b, c, rfl⟩
theorem tri_back (k : Nat) (ps : List ByteArray) {pl : Nat} (hpl : ps.length = pl) (c : Int) (hkd : kindN (bytesI [c] ++ cat ps) = kindB (byte (bytesI [c] ++ cat ps) 0)) (hparts : partsL (bytesI [c] ++ cat ps) = ps) (hpT : ∀ p ∈ ps, ∀ r, Rst r → pT k (lineB k p ++ r) = some (p, r)) (hpH : ∀ p ∈ ps, ∃ b l, (lineB k p).data.toList = b :: l ∧ b ≠ 93 ∧ b ≠ 41)
    (hmade : ∀ r, hadO (madeE (bytesI [c]) ps) r = some (bytesI [c] ++ cat ps, r)) (hsz : (bytesI [c]).size = 1) (hc : (c = 104 ∧ pl = 1) ∨ (c = 109 ∧ pl = 2) ∨ (c = 115 ∧ pl = 3)) : LnB (k + 1) (bytesI [c] ++ cat ps) := by
  have hb : byte (bytesI [c] ++ cat ps) 0 = c := byte0_one (by omega) (by omega) _
  have hx : (bytesI [c] ++ cat ps).extract 0 1 = bytesI [c] := by have := ext_left (bytesI [c]) (cat ps); rw [hsz] at this; exact this
  have hl : lineB (k + 1) (bytesI [c] ++ cat ps) = ((bytesI [c] ++ ⟨#[40]⟩) ++ seqC sepB true (ps.map (lineB k))) ++ ⟨#[41]⟩ := by
    rw [lineB, hkd, hb, hx, hparts]
    rcases hc with ⟨rfl, _⟩ | ⟨rfl, _⟩ | ⟨rfl, _⟩ <;> rfl
  obtain ⟨u, hu, hu1⟩ : ∃ u : UInt8, (bytesI [c]).data.toList = [u] ∧ (u ≠ 36 ∧ u ≠ 120 ∧ u ≠ 34 ∧ u ≠ 91 ∧ u ≠ 93 ∧ u ≠ 41) := by
    rcases hc with ⟨rfl, _⟩ | ⟨rfl, _⟩ | ⟨rfl, _⟩
    · exact ⟨104, rfl, by decide⟩
    · exact ⟨109, rfl, by decide⟩
    · exact ⟨115, rfl, by decide⟩
  refine ⟨fun r hr => ?_, u, _, by rw [hl, app_list, app_list, app_list, hu]; rfl, hu1.2.2.2.2.1, hu1.2.2.2.2.2⟩
  have hs : (lineB (k + 1) (bytesI [c] ++ cat ps) ++ r) = bytesI [c] ++ ((⟨#[40]⟩ : ByteArray) ++ (seqC sepB true (ps.map (lineB k)) ++ ((⟨#[41]⟩ : ByteArray) ++ r))) := by rw [hl]; simp only [app_assoc]
  rw [hs]
  generalize hrest : (⟨#[40]⟩ : ByteArray) ++ (seqC sepB true (ps.map (lineB k)) ++ ((⟨#[41]⟩ : ByteArray) ++ r)) = rest
  have hhd : ∀ d : UInt8, u ≠ d → preB (bytesI [c] ++ rest) ⟨#[d]⟩ = false := fun d hd => prx (l := rest.data.toList) (by rw [app_list, hu]; rfl) d hd
  have e1 : (bytesI [c] ++ rest).extract 1 (bytesI [c] ++ rest).size = rest := by have := ext_right (bytesI [c]) rest; rw [hsz] at this; exact this
  have e2 : (bytesI [c] ++ rest).extract 0 1 = bytesI [c] := by have := ext_left (bytesI [c]) rest; rw [hsz] at this; exact this
  have hz1 : ¬ (bytesI [c] ++ rest).size < 1 := by rw [app_size, hsz]; omega
  rw [pT, if_neg (by rw [hhd 36 hu1.1]; decide), if_neg (by rw [hhd 120 hu1.2.1]; decide), if_neg (by rw [hhd 34 hu1.2.2.1]; decide), if_neg (by rw [hhd 91 hu1.2.2.2.1]; decide), if_neg hz1, e1, e2, ← hrest, if_pos (preB_app _ _), nextR_app,
    parts_back (.inr rfl) ps 32 true r (by omega) hpT hpH, Option.bind_some]
  have hm := hmade r
  rcases hc with ⟨rfl, rfl⟩ | ⟨rfl, rfl⟩ | ⟨rfl, rfl⟩
  · obtain ⟨a, rfl⟩ := List.length_eq_one_iff.1 hpl
    rw [kindO, if_pos (show bytesI [104] = ⟨#[104]⟩ from rfl), show (⟨#[104]⟩ : ByteArray) = bytesI [104] from rfl]; exact hm
  · obtain ⟨a, b, rfl⟩ := len2 hpl
    rw [kindO, if_pos (show bytesI [109] = ⟨#[109]⟩ from rfl), show (⟨#[109]⟩ : ByteArray) = bytesI [109] from rfl]; exact hm
  · obtain ⟨a, b, d, rfl⟩ := len3 hpl
    rw [kindO, if_pos (show bytesI [115] = ⟨#[115]⟩ from rfl), show (⟨#[115]⟩ : ByteArray) = bytesI [115] from rfl]; exact hm
theorem line_back : ∀ (k : Nat), k ≤ 16 → ∀ t, Tm k t → t.size ≤ 16384 → LnB k t
  | 0, _, _, h, _ => h.elim
  | k + 1, hk, t, hT, hz => by
    obtain ⟨hmay, hkd⟩ := kind_of hk hT hz
    have hT0 := hT
    obtain ⟨hd, ps, h1, rfl, h3⟩ := hT
    have hih : ∀ p ∈ ps, LnB k p := fun p hp => line_back k (by omega) p (h3 p hp) (by have := cat_mem hp; rw [app_size] at hz; omega)
    have hpT : ∀ p ∈ ps, ∀ r, Rst r → pT k (lineB k p ++ r) = some (p, r) := fun p hp => (hih p hp).1
    have hpH : ∀ p ∈ ps, ∃ b l, (lineB k p).data.toList = b :: l ∧ b ≠ 93 ∧ b ≠ 41 := fun p hp => (hih p hp).2
    have hmade := made_back hk hT0 (by simpa using h3) hz
    have hparts : partsL (hd ++ cat ps) = ps := parts_of (k := k) (by omega) h1 h3 (by omega)
    generalize hpl : ps.length = pl at h1
    cases h1 with
    | data hx =>
      rename_i x
      obtain rfl := List.length_eq_zero_iff.1 hpl
      have e0 : (bytesI [100] ++ textB x) ++ cat [] = bytesI [100] ++ textB x := app_nil _
      rw [e0] at hmay hkd ⊢
      have hb : byte (bytesI [100] ++ textB x) 0 = 100 := byte0_one (by decide) (by decide) _
      have hl : lineB (k + 1) (bytesI [100] ++ textB x) = datumB x := by rw [lineB, hkd, hb, if_pos (by decide), text_of (.inl rfl) hx hmay]
      refine ⟨fun r hr => by rw [hl]; exact data_back hx hr k, ?_⟩
      rw [hl, datumB]
      split
      · exact ⟨34, _, by rw [app_list, app_list]; rfl, by decide, by decide⟩
      · exact ⟨120, _, rfl, by decide, by decide⟩
    | atom hx hn =>
      rename_i x
      obtain rfl := List.length_eq_zero_iff.1 hpl
      have e0 : (bytesI [97] ++ textB x) ++ cat [] = bytesI [97] ++ textB x := app_nil _
      rw [e0] at hmay hkd ⊢
      have hb : byte (bytesI [97] ++ textB x) 0 = 97 := byte0_one (by decide) (by decide) _
      have hl : lineB (k + 1) (bytesI [97] ++ textB x) = (⟨#[36]⟩ : ByteArray) ++ x := by rw [lineB, hkd, hb, if_neg (by decide), if_pos (by decide), text_of (.inr rfl) (by omega) hmay]
      exact ⟨fun r hr => by rw [hl]; exact atom_back hx hn hr k, 36, _, by rw [hl, app_list]; rfl, by decide, by decide⟩
    | row hv =>
      subst hpl
      have hb : byte ((bytesI [114] ++ numB ps.length) ++ cat ps) 0 = 114 := by rw [app_assoc]; exact byte0_one (by decide) (by decide) _
      have hl : lineB (k + 1) ((bytesI [114] ++ numB ps.length) ++ cat ps) = ((⟨#[91]⟩ : ByteArray) ++ seqC sepB true (ps.map (lineB k))) ++ ⟨#[93]⟩ := by
        rw [lineB, hkd, hb, if_neg (by decide), if_neg (by decide), if_pos (by decide), hparts]
      refine ⟨fun r hr => ?_, 91, _, by rw [hl, app_list, app_list]; rfl, by decide, by decide⟩
      have hs : (lineB (k + 1) ((bytesI [114] ++ numB ps.length) ++ cat ps) ++ r) = (⟨#[91]⟩ : ByteArray) ++ (seqC sepB true (ps.map (lineB k)) ++ ((⟨#[93]⟩ : ByteArray) ++ r)) := by rw [hl]; simp only [app_assoc]
      rw [hs]
      have hhd : ∀ c : UInt8, (91 : UInt8) ≠ c → preB ((⟨#[91]⟩ : ByteArray) ++ (seqC sepB true (ps.map (lineB k)) ++ ((⟨#[93]⟩ : ByteArray) ++ r))) ⟨#[c]⟩ = false := fun c hc => prx (by rw [app_list]; rfl) c hc
      rw [pT, if_neg (by rw [hhd 36 (by decide)]; decide), if_neg (by rw [hhd 120 (by decide)]; decide), if_neg (by rw [hhd 34 (by decide)]; decide), if_pos (preB_app _ _), nextR_app, parts_back (.inl rfl) ps 32 true r hv hpT hpH, Option.bind_some]
      exact hmade r
    | hash => exact tri_back k ps hpl 104 hkd hparts hpT hpH hmade rfl (.inl ⟨rfl, rfl⟩)
    | mac => exact tri_back k ps hpl 109 hkd hparts hpT hpH hmade rfl (.inr (.inl ⟨rfl, rfl⟩))
    | slot => exact tri_back k ps hpl 115 hkd hparts hpT hpH hmade rfl (.inr (.inr ⟨rfl, rfl⟩))
end Go.Proofs.YtladcmfbkiogbaaGreatDoor
namespace Go.Proofs.YtladcmfbkiogbaaGreatDoor
open Go.Chi Go.Lib
theorem parse_back {t : ByteArray} (h : mayB t = true) (hz : t.size < 4611686018427387904) : parseE (lineB 16 t) = (t, 0) := by
  obtain ⟨hT, hz2⟩ := (mayB_iff hz).1 h
  have := (line_back 16 (Nat.le_refl _) t hT hz2).1 ⟨#[]⟩ (Stp.nil _)
  rw [app_nil] at this
  rw [parseE, this]
  exact if_pos rfl
def SgT (sg : List UInt8) : Prop := sg = [59, 32] ∨ sg = [32, 43, 32]
def Scn (sg u : List UInt8) : Prop := ∀ r, scanF sg (u ++ r) false = u.length + scanF sg r false
def quB (b : UInt8) : Prop := b ≠ 34 ∧ b ≠ 59 ∧ b ≠ 32
theorem Scn.app {sg u v : List UInt8} (hu : Scn sg u) (hv : Scn sg v) : Scn sg (u ++ v) := fun r => by
  rw [List.append_assoc, hu, hv, List.length_append]; omega
theorem pre_no {sg : List UInt8} (h : SgT sg) {b : UInt8} (hb : b ≠ 59 ∧ b ≠ 32) (l : List UInt8) : hasPrefix (b :: l) sg = false := by
  rcases h with rfl | rfl
  · show List.isPrefixOf [59, 32] (b :: l) = false
    rw [List.isPrefixOf]; simp [Ne.symm hb.1]
  · show List.isPrefixOf [32, 43, 32] (b :: l) = false
    rw [List.isPrefixOf]; simp [Ne.symm hb.2]
theorem scn_qu {sg : List UInt8} (h : SgT sg) : ∀ {u : List UInt8}, (∀ b ∈ u, quB b) → Scn sg u
  | [], _ => fun r => by rw [List.nil_append, List.length_nil, Nat.zero_add]
  | b :: u, hu => fun r => by
    have hb := hu b List.mem_cons_self
    rw [List.cons_append, scanF, pre_no h hb.2, if_pos (by decide), if_neg hb.1, scn_qu h (fun c hc => hu c (List.mem_cons_of_mem _ hc)) r, List.length_cons]
    omega
theorem scan_qd {sg : List UInt8} : ∀ {x : List UInt8}, (∀ b ∈ x, b ≠ 34) → ∀ r, scanF sg (x ++ 34 :: r) true = x.length + 1 + scanF sg r false
  | [], _, r => by rw [List.nil_append, scanF, if_pos (by simp), if_pos rfl]; show scanF sg r false + 1 = _; rw [List.length_nil]; omega
  | b :: x, hx, r => by
    rw [List.cons_append, scanF, if_pos (by simp), if_neg (hx b List.mem_cons_self), scan_qd (fun c hc => hx c (List.mem_cons_of_mem _ hc)) r, List.length_cons]
    omega
theorem scn_quote {sg : List UInt8} (h : SgT sg) {x : List UInt8} (hx : ∀ b ∈ x, b ≠ 34) : Scn sg (34 :: (x ++ [34])) := fun r => by
  rw [List.cons_append, scanF, pre_no h (by decide), if_pos (by decide), if_pos rfl, List.append_assoc]
  show scanF sg (x ++ 34 :: r) true + 1 = _
  rw [scan_qd hx r, List.length_cons, List.length_append, List.length_singleton]
  omega
theorem scn_sep {sg : List UInt8} (h : SgT sg) {v : List UInt8} (hv : Scn sg v) (hh : ∃ b l, v = b :: l ∧ b ≠ 43) : Scn sg (44 :: 32 :: v) := fun r => by
  obtain ⟨b, l, rfl, hb⟩ := hh
  have h2 : hasPrefix (32 :: b :: (l ++ r)) sg = false := by
    rcases h with rfl | rfl
    · rfl
    · show List.isPrefixOf [32, 43, 32] (32 :: b :: (l ++ r)) = false
      rw [List.isPrefixOf, List.isPrefixOf]; simp [Ne.symm hb]
  have h3 := hv r
  rw [List.cons_append] at h3
  rw [List.cons_append, List.cons_append, List.cons_append, scanF, pre_no h (by decide), if_pos (by decide), if_neg (by decide), scanF, h2, if_pos (by decide), if_neg (by decide), h3]
  simp only [List.length_cons]; omega
theorem hexQ_qu : ∀ n : Fin 256, hexQ ((n.val.toUInt8.toNat : Nat) : Int) = true → (n.val.toUInt8 ≠ 34 ∧ n.val.toUInt8 ≠ 59 ∧ n.val.toUInt8 ≠ 32) := by decide +kernel
theorem atomQ_qu : ∀ n : Fin 256, atomQ ((n.val.toUInt8.toNat : Nat) : Int) = true → (n.val.toUInt8 ≠ 34 ∧ n.val.toUInt8 ≠ 59 ∧ n.val.toUInt8 ≠ 32) := by decide +kernel
theorem fin_b {p : UInt8 → Prop} (h : ∀ n : Fin 256, p n.val.toUInt8) (b : UInt8) : p b := by
  have := h ⟨b.toNat, b.toNat_lt⟩
  simpa only [Nat.toUInt8_eq, UInt8.ofNat_toNat] using this
theorem plain_34 {x : ByteArray} (hx : plainB x = true) : ∀ b ∈ x.data.toList, b ≠ 34 := by
  have hw : whileN x plainR = x.size := by simpa [plainB] using hx
  have key : ∀ k p, x.size - p ≤ k → whF plainR (rsF x p) x.size = x.size → ∀ y ∈ rsF x p, plainR (y.2 : Int) = true := by
    intro k
    induction k with
    | zero =>
      intro p h1 _ y hy
      rw [rsF_ge (by omega)] at hy; cases hy
    | succ k ih =>
      intro p h1 h2 y hy
      by_cases hp : p < x.size
      · have hwd := decode_wide x hp
        rw [rsF_lt hp] at hy h2
        rw [whF] at h2
        split at h2
        · rename_i hq
          rcases List.mem_cons.1 hy with rfl | hy
          · exact hq
          · exact ih _ (by omega) h2 y hy
        · exfalso; dsimp only at h2; omega
      · rw [rsF_ge hp] at hy; cases hy
  have hall := runes_bytes (s := x) (q := fun r => decide (r ≠ 34)) (fun r hr => by simp; omega) (fun r hr => by
    obtain ⟨y, hy, rfl⟩ := List.mem_map.1 hr
    have := key x.size 0 (by omega) hw y hy
    simp only [plainR, Bool.and_eq_true] at this
    exact this.1)
  intro b hb e
  have := hall b hb
  rw [e] at this
  exact absurd this (by decide)
theorem scn_datum {sg : List UInt8} (h : SgT sg) (x : ByteArray) : Scn sg (datumB x).data.toList := by
  unfold datumB
  split
  · rename_i hp
    rw [app_list, app_list]
    exact scn_quote h (plain_34 hp)
  · refine scn_qu h fun b hb => ?_
    rcases List.mem_cons.1 hb with rfl | hb
    · exact ⟨by decide, by decide, by decide⟩
    · exact fin_b (p := fun b => hexQ (b.toNat : Int) = true → quB b) hexQ_qu b (hex_is _ b hb)
theorem seq_scn {sg : List UInt8} (h : SgT sg) : ∀ (l : List ByteArray) (first : Bool), (∀ x ∈ l, Scn sg x.data.toList ∧ ∃ b t, x.data.toList = b :: t ∧ b ≠ 43) → Scn sg (seqC sepB first l).data.toList
  | [], _, _ => fun r => by rw [seqC]; show scanF sg ([] ++ r) false = _; rw [List.nil_append]; exact (Nat.zero_add _).symm
  | x :: l, first, hl => by
    have ih := seq_scn h l false fun y hy => hl y (List.mem_cons_of_mem _ hy)
    obtain ⟨h1, h2⟩ := hl x List.mem_cons_self
    rw [seqC, app_list]
    refine Scn.app ?_ ih
    cases first with
    | true => exact h1
    | false =>
      show Scn sg (sepB ++ x).data.toList
      rw [app_list]
      exact scn_sep h h1 h2
theorem named_all {x : ByteArray} (hn : namedR x = true) : ∀ b ∈ x.data.toList, atomQ (b.toNat : Int) = true := fun b hb => by
  obtain ⟨i, hi⟩ := List.getElem?_of_mem hb
  rw [namedR, Bool.and_eq_true] at hn
  exact named_atom _ 0 (by omega) hn.1 i (Nat.zero_le _) b (by rw [ba_get]; exact hi)
theorem atom_all {k : Nat} (hk : k ≤ 16) {t : ByteArray} (hT : Tm k t) (hz : t.size ≤ 16384) (h2 : kindN t = 2) : ∀ b ∈ (textN t).1.data.toList, atomQ (b.toNat : Int) = true := by
  obtain ⟨hmay, hkd⟩ := kind_of hk hT hz
  cases k with
  | zero => exact hT.elim
  | succ k =>
    obtain ⟨hd, ps, h1, rfl, _⟩ := hT
    rw [hkd] at h2
    generalize hpl : ps.length = pl at h1
    cases h1 with
    | data hx =>
      rw [app_assoc, byte0_one (by decide) (by decide)] at h2
      exact absurd h2 (by decide)
    | atom hx hn =>
      rename_i x
      obtain rfl := List.length_eq_zero_iff.1 hpl
      have e0 : (bytesI [97] ++ textB x) ++ cat [] = bytesI [97] ++ textB x := app_nil _
      rw [e0] at hmay ⊢
      rw [text_of (.inr rfl) (by omega) hmay]
      exact named_all hn
    | row hv =>
      rw [app_assoc, byte0_one (by decide) (by decide)] at h2
      exact absurd h2 (by decide)
    | hash =>
      rw [byte0_one (by decide) (by decide)] at h2
      exact absurd h2 (by decide)
    | mac =>
      rw [byte0_one (by decide) (by decide)] at h2
      exact absurd h2 (by decide)
    | slot =>
      rw [byte0_one (by decide) (by decide)] at h2
      exact absurd h2 (by decide)
theorem line_scn {sg : List UInt8} (hsg : SgT sg) : ∀ (k : Nat), k ≤ 16 → ∀ t, Tm k t → t.size ≤ 16384 → Scn sg (lineB k t).data.toList ∧ ∃ b l, (lineB k t).data.toList = b :: l ∧ b ≠ 43
  | 0, _, _, h, _ => h.elim
  | k + 1, hk, t, hT, hz => by
    obtain ⟨hmay, hkd⟩ := kind_of hk hT hz
    have hT0 := hT
    have hby := hT0.byte
    obtain ⟨hd, ps, h1, ht, h3⟩ := hT
    have hparts : partsL t = ps := by rw [ht]; exact parts_of (k := k) (by omega) h1 h3 (by rw [← ht]; omega)
    have hih : ∀ p ∈ ps, Scn sg (lineB k p).data.toList ∧ ∃ b l, (lineB k p).data.toList = b :: l ∧ b ≠ 43 := fun p hp => line_scn hsg k (by omega) p (h3 p hp) (by have := cat_mem hp; rw [ht, app_size] at hz; omega)
    have hseq : ∀ f, Scn sg (seqC sepB f ((partsL t).map (lineB k))).data.toList := fun f => by
      rw [hparts]
      exact seq_scn hsg _ f fun x hx => by obtain ⟨p, hp, rfl⟩ := List.mem_map.1 hx; exact hih p hp
    have hone : ∀ b : UInt8, quB b → Scn sg [b] := fun b hb => scn_qu hsg fun c hc => by obtain rfl := List.mem_singleton.1 hc; exact hb
    rw [lineB]
    split
    · refine ⟨scn_datum hsg _, ?_⟩
      unfold datumB
      split
      · exact ⟨34, _, by rw [app_list, app_list]; rfl, by decide⟩
      · exact ⟨120, _, rfl, by decide⟩
    split
    · rename_i h2
      refine ⟨?_, 36, _, by rw [app_list]; rfl, by decide⟩
      rw [app_list]
      refine Scn.app (hone 36 ⟨by decide, by decide, by decide⟩) (scn_qu hsg fun b hb => ?_)
      exact fin_b (p := fun b => atomQ (b.toNat : Int) = true → quB b) atomQ_qu b (atom_all hk hT0 hz h2 b hb)
    split
    · refine ⟨?_, 91, _, by rw [app_list, app_list]; rfl, by decide⟩
      rw [app_list, app_list]
      exact ((hone 91 ⟨by decide, by decide, by decide⟩).app (hseq true)).app (hone 93 ⟨by decide, by decide, by decide⟩)
    · have he : t.extract 0 1 = bytesI [byte t 0] := ext_one (by have := hT0.pos; omega)
      rw [he]
      rename_i k1 k2 k3
      rw [hkd] at k1 k2 k3
      have hu : ∃ u : UInt8, (bytesI [byte t 0]).data.toList = [u] ∧ quB u ∧ u ≠ 43 := by
        rcases hby with e | e | e | e | e | e
        · rw [e] at k1; exact absurd rfl k1
        · rw [e] at k2; exact absurd rfl k2
        · rw [e] at k3; exact absurd rfl k3
        · rw [e]; exact ⟨104, rfl, ⟨by decide, by decide, by decide⟩, by decide⟩
        · rw [e]; exact ⟨109, rfl, ⟨by decide, by decide, by decide⟩, by decide⟩
        · rw [e]; exact ⟨115, rfl, ⟨by decide, by decide, by decide⟩, by decide⟩
      obtain ⟨u, hu, hq, h43⟩ := hu
      refine ⟨?_, u, _, by rw [app_list, app_list, app_list, hu]; rfl, h43⟩
      rw [app_list, app_list, app_list, hu]
      exact (((hone u hq).app (hone 40 ⟨by decide, by decide, by decide⟩)).app (hseq true)).app (hone 41 ⟨by decide, by decide, by decide⟩)
theorem term_app {t sg r : ByteArray} (hsg : SgT sg.data.toList) (h : mayB t = true) (hz : t.size < 4611686018427387904) (hr : r = ⟨#[]⟩ ∨ ∃ r', r = sg ++ r') : termO ((lineE t).1 ++ r) sg = some (t, r) := by
  obtain ⟨hT, hz2⟩ := (mayB_iff hz).1 h
  have hl : (lineE t).1 = lineB 16 t := by rw [lineE, if_pos h]
  have hs := (line_scn hsg 16 (Nat.le_refl _) t hT hz2).1 r.data.toList
  have h0 : scanF sg.data.toList r.data.toList false = 0 := by
    rcases hr with rfl | ⟨r', rfl⟩
    · rfl
    · have hp : hasPrefix (sg ++ r').data.toList sg.data.toList = true := preB_app sg r'
      cases hc : (sg ++ r').data.toList with
      | nil => rfl
      | cons b l => rw [hc] at hp; rw [scanF, hp, if_neg (by decide)]
  rw [h0, Nat.add_zero, ba_len] at hs
  rw [hl, termO, app_list, hs, ext_left, ext_right, parse_back h hz, if_pos rfl]
end Go.Proofs.YtladcmfbkiogbaaGreatDoor
namespace Go.Proofs.YtladcmfbkiogbaaGreatDoor
open Go.Chi Go.Lib
theorem stp_sp {z : ByteArray} (h : (32 : UInt8) ∈ z.data.toList) (r : ByteArray) : Stp z (sp1 ++ r) := Stp.app r ⟨32, [], rfl, h⟩
def Pls (r : ByteArray) : Prop := r = ⟨#[]⟩ ∨ ∃ r', r = plusB ++ r'
theorem Pls.stp {z : ByteArray} (h : (32 : UInt8) ∈ z.data.toList) {r : ByteArray} (hr : Pls r) : Stp z r := by
  rcases hr with rfl | ⟨r', rfl⟩
  · exact Stp.nil _
  · exact Stp.app r' ⟨32, [43, 32], rfl, h⟩
theorem kW_32 (d : Int) : ∀ b ∈ (kW d).data.toList, b ∉ sgSp.data.toList := by
  unfold kW
  repeat' split
  all_goals decide
theorem kd_back {d : Int} (h1 : 1 ≤ d) (h9 : d ≤ 9) : kdTo (kW d) 9 = d := by
  have : d = 1 ∨ d = 2 ∨ d = 3 ∨ d = 4 ∨ d = 5 ∨ d = 6 ∨ d = 7 ∨ d = 8 ∨ d = 9 := by omega
  rcases this with rfl | rfl | rfl | rfl | rfl | rfl | rfl | rfl | rfl <;> decide
theorem fs_app {x : Sp} (hx : SpP x) : ∀ (os : List Nat) (b : Sp) {r : ByteArray}, Stp sgNum r → fsO os b (fsB x os ++ r) = some (brF x os b, r)
  | [], b, r, _ => by rw [fsB, nil_app]; rfl
  | o :: os, b, r, hr => by
    have hn := getF_nm hx o
    have hst : Stp sgNum (fsB x os ++ r) := by
      cases os with
      | nil => rw [fsB, nil_app]; exact hr
      | cons p os => rw [fsB, app_assoc, app_assoc]; exact stp_sp (by decide) _
    rw [fsB, app_assoc, app_assoc, fsO, hear_app, Option.bind_some, num_app hn.1 (by exact hn.2) (by decide) hst, Option.bind_some]
    show fsO os (setF b o ((getF x o).toNat : Int)) _ = _
    rw [Int.toNat_of_nonneg hn.1, fs_app hx os _ hr, brF]
theorem row_app : ∀ (l : List Int) (k : Nat) {r : ByteArray}, (∀ v ∈ l, nmW v = true) → l.length ≤ k → Pls r → rowO k (rwB l ++ r) = some (l, r)
  | [], k, r, _, _, hr => by
    rw [rwB, nil_app]
    cases k with
    | zero => rfl
    | succ k =>
      rw [rowO, if_pos]
      rcases hr with rfl | ⟨r', rfl⟩
      · exact .inl rfl
      · exact .inr (preB_app _ _)
  | v :: l, 0, r, _, h, _ => by simp at h
  | v :: l, k + 1, r, hv, hk, hr => by
    have hnm := hv v List.mem_cons_self
    simp only [nmW, Bool.and_eq_true, decide_eq_true_eq] at hnm
    have hst : Stp sgNum (rwB l ++ r) := by
      cases l with
      | nil => rw [rwB, nil_app]; exact hr.stp (by decide)
      | cons p l => rw [rwB, app_assoc, app_assoc]; exact stp_sp (by decide) _
    rw [rwB, app_assoc, app_assoc]
    have hne : ¬ (sp1 ++ (dgB v ++ (rwB l ++ r)) = ⟨#[]⟩ ∨ preB (sp1 ++ (dgB v ++ (rwB l ++ r))) plusB = true) := by
      rintro (h | h)
      · have := congrArg ByteArray.size h
        rw [app_size] at this
        have h1 : sp1.size = 1 := rfl
        have h0 : (⟨#[]⟩ : ByteArray).size = 0 := rfl
        omega
      · rw [preB, app_list, app_list] at h
        have hd : ∃ b m, (dgB v).data.toList = b :: m ∧ b ≠ 43 := by
          cases hl : (dgB v).data.toList with
          | nil => exact absurd hl (dec_ne v.toNat)
          | cons b m =>
            have := dec_digit v.toNat b (by show b ∈ (dgB v).data.toList; rw [hl]; exact List.mem_cons_self)
            exact ⟨b, m, rfl, by rintro rfl; exact absurd this.1 (by decide)⟩
        obtain ⟨b, m, hb, h43⟩ := hd
        rw [hb] at h
        have h' : List.isPrefixOf [32, 43, 32] (32 :: b :: (m ++ (rwB l ++ r).data.toList)) = true := h
        rw [List.isPrefixOf, List.isPrefixOf] at h'
        simp [Ne.symm h43] at h'
    rw [rowO, if_neg hne, hear_app, Option.bind_some, num_app hnm.1 (by exact hnm.2) (by decide) hst, Option.bind_some, row_app l k (fun w hw => hv w (List.mem_cons_of_mem _ hw)) (by simpa using hk) hr, Option.bind_some]
    show some (((v.toNat : Nat) : Int) :: l, r) = _
    rw [Int.toNat_of_nonneg hnm.1]
theorem bare_eq {x : Sp} (h : bareS x = true) : (bareN x).a = x.a ∧ (bareN x).b = x.b ∧ (bareN x).c = x.c ∧ (bareN x).n = x.n ∧ (x.do_ = 2 ∨ x.text = ⟨#[]⟩) ∧ (x.do_ = 6 ∨ x.list = []) := by
  simp only [bareS, Bool.and_eq_true, Bool.or_eq_true, beq_iff_eq, decide_eq_true_eq] at h
  obtain ⟨⟨⟨⟨⟨h1, h2⟩, h3⟩, h4⟩, h5⟩, h6⟩ := h
  exact ⟨h1, h2, h3, h4, h5, h6⟩
theorem rw_len (l : List Int) : l.length ≤ (rwB l).size := by
  induction l with
  | nil => exact Nat.zero_le _
  | cons v l ih =>
    have h1 : sp1.size = 1 := rfl
    rw [rwB, app_size, app_size, List.length_cons]; omega
theorem sp_ext {x y : Sp} (h0 : x.do_ = y.do_) (h1 : x.a = y.a) (h2 : x.b = y.b) (h3 : x.c = y.c) (h4 : x.n = y.n) (h5 : x.text = y.text) (h6 : x.list = y.list) : x = y := by
  cases x; cases y
  simp only at h0 h1 h2 h3 h4 h5 h6
  subst h0 h1 h2 h3 h4 h5 h6
  rfl
theorem step_back {x : Sp} (hx : SpP x) {t : ByteArray} (h : stepV x = some t) {r : ByteArray} (hr : Pls r) : estO (t ++ r) = some (x, r) := by
  obtain ⟨u, hu, h⟩ := Option.bind_eq_some_iff.1 h
  split at h
  rotate_left
  · cases h
  rename_i hb
  cases h
  obtain ⟨b1, b2, b3, b4, b5, b6⟩ := bare_eq hb
  obtain ⟨f1, f2, f3⟩ := brF_do x (kO x.do_) (sp0 x.do_)
  have hd0 : kdTo (kW x.do_) 9 = x.do_ := kd_back hx.do_.1 hx.do_.2
  have hne : ¬ x.do_ = 0 := by have := hx.do_.1; omega
  -- what stands behind the numbers
  have hst : Stp sgNum (u ++ r) ∧ Stp sgSp (fsB x (kO x.do_) ++ (u ++ r)) := by
    have hu2 : (∃ w, u = sp1 ++ w) ∨ u = ⟨#[]⟩ := by
      unfold tailV at hu
      split at hu
      · obtain ⟨w, _, rfl⟩ := Option.map_eq_some_iff.1 hu; exact .inl ⟨_, rfl⟩
      split at hu
      · cases hu
        cases x.list with
        | nil => exact .inr rfl
        | cons v l => exact .inl ⟨dgB v ++ rwB l, by rw [rwB, app_assoc]⟩
      · cases hu; exact .inr rfl
    have h1 : ∀ z : ByteArray, (32 : UInt8) ∈ z.data.toList → Stp z (u ++ r) := fun z hz => by
      rcases hu2 with ⟨w, rfl⟩ | rfl
      · rw [app_assoc]; exact stp_sp hz _
      · rw [nil_app]; exact hr.stp hz
    refine ⟨h1 _ (by decide), ?_⟩
    cases kO x.do_ with
    | nil => rw [fsB, nil_app]; exact h1 _ (by decide)
    | cons o os => rw [fsB, app_assoc, app_assoc]; exact stp_sp (by decide) _
  have hw : wordO (((kW x.do_ ++ fsB x (kO x.do_)) ++ u) ++ r) sgSp = (kW x.do_, fsB x (kO x.do_) ++ (u ++ r)) := by
    rw [app_assoc, app_assoc]
    exact word_app sgSp_ok (kW_32 _) hst.2
  rw [estO, hw]
  dsimp only
  rw [hd0, if_neg hne, fs_app hx _ _ hst.1, Option.bind_some]
  dsimp only
  have hbn : brF x (kO x.do_) (sp0 x.do_) = bareN x := rfl
  rw [hbn] at f1 f2 f3 ⊢
  have g1 : (bareN x).do_ = x.do_ := f1
  have g2 : (bareN x).text = ⟨#[]⟩ := f2
  have g3 : (bareN x).list = [] := f3
  rw [g1]
  unfold tailV at hu
  by_cases h2 : x.do_ = 2
  · rw [if_pos h2] at hu ⊢
    obtain ⟨w, hw1, rfl⟩ := Option.map_eq_some_iff.1 hu
    unfold termV at hw1
    split at hw1
    rotate_left
    · cases hw1
    rename_i hl0
    cases hw1
    have hdz := dataE_sz (s := x.text)
    have hmay : mayB (dataE x.text).1 = true := by
      apply Classical.byContradiction
      intro hn
      rw [lineE, if_neg hn] at hl0
      cases hl0
    have htx : x.text.size ≤ 1024 := hx.text
    have hde : (dataE x.text).1 = bytesI [100] ++ textB x.text := by rw [dataE, if_neg (by omega)]; rfl
    rw [app_assoc, hear_app, Option.bind_some, term_app (sg := plusB) (.inr rfl) hmay (by omega) hr, Option.bind_some]
    dsimp only
    have hk : kindN (dataE x.text).1 = 1 := by
      rw [kindN, if_pos hmay, hde, byte0_one (by decide) (by decide)]; rfl
    have htn : (textN (dataE x.text).1).1 = x.text := by rw [hde] at hmay ⊢; exact text_of (.inl rfl) htx hmay
    rw [if_pos hk, htn]
    have h6 : x.list = [] := b6.resolve_left (by omega)
    exact congrArg (fun z => some (z, r)) (sp_ext rfl b1 b2 b3 b4 rfl (g3.trans h6.symm))
  rw [if_neg h2] at hu ⊢
  by_cases h6 : x.do_ = 6
  · rw [if_pos h6] at hu ⊢
    cases hu
    rw [row_app x.list _ hx.list (by have := rw_len x.list; rw [app_size]; omega) hr, Option.bind_some]
    have ht : x.text = ⟨#[]⟩ := b5.resolve_left h2
    exact congrArg (fun z => some (z, r)) (sp_ext rfl b1 b2 b3 b4 (g2.trans ht.symm) rfl)
  · rw [if_neg h6] at hu ⊢
    cases hu
    have ht : x.text = ⟨#[]⟩ := b5.resolve_left h2
    have hl : x.list = [] := b6.resolve_left h6
    rw [nil_app]
    exact congrArg (fun z => some (z, r)) (sp_ext g1 b1 b2 b3 b4 (g2.trans ht.symm) (g3.trans hl.symm))
end Go.Proofs.YtladcmfbkiogbaaGreatDoor
namespace Go.Proofs.YtladcmfbkiogbaaGreatDoor
open Go.Chi Go.Lib
set_option maxRecDepth 10000
theorem app_nul (s : ByteArray) : s ++ (⟨#[]⟩ : ByteArray) = s := by
  apply ByteArray.ext
  apply Array.toList_inj.1
  rw [app_list]
  exact List.append_nil _
theorem preB_ex {s p : ByteArray} (h : preB s p = true) : ∃ r, s = p ++ r := by
  obtain ⟨t, ht⟩ := List.isPrefixOf_iff_prefix.1 h
  refine ⟨⟨t.toArray⟩, ByteArray.ext (Array.toList_inj.1 ?_)⟩
  rw [app_list]
  exact ht.symm
theorem post_no {o v : ByteArray} (ho : ∀ b ∈ o.data.toList, b ∉ sgOrg.data.toList) (hv : dig0 v = false) : postQ (o ++ (sp1 ++ v)) = false := by
  apply Bool.eq_false_iff.2
  intro h
  rw [postQ, Bool.and_eq_true] at h
  obtain ⟨h1, h2⟩ := h
  obtain ⟨r, hr⟩ := preB_ex h1
  rw [hr, nextR_app] at h2
  have e1 := word_app sgOrg_ok ho (stp_sp (by decide) v)
  have hp : wPost = (⟨#[112, 111, 115, 116]⟩ : ByteArray) ++ sp1 := by decide
  have e2 := word_app sgOrg_ok (w := ⟨#[112, 111, 115, 116]⟩) (by decide) (stp_sp (by decide) r)
  rw [hr, hp, app_assoc, e2] at e1
  have h3 : sp1 ++ r = sp1 ++ v := congrArg Prod.snd e1
  have h4 : nextR (sp1 ++ r) sp1 = nextR (sp1 ++ v) sp1 := by rw [h3]
  rw [nextR_app, nextR_app] at h4
  rw [h4, hv] at h2
  cases h2
theorem act_app {names : List ByteArray} (hn : rollB names = true) {k : Nat} {o w r : ByteArray} (hk : orgV names k = some o) (hw : ∀ b ∈ w.data.toList, b ∉ sgSp.data.toList) (hd : dig0 (w ++ r) = false) (hr : Stp sgSp r) :
    actO names (o ++ (sp1 ++ (w ++ r))) = verbO names k w r := by
  have ho := name_sign (roll_name hn o (List.mem_of_getElem? hk))
  rw [actO, if_neg (by rw [post_no ho hd]; decide), org_app hn hk (stp_sp (by decide) _), Option.bind_some]
  dsimp only
  rw [hear_app, Option.bind_some]
  dsimp only
  rw [word_app sgSp_ok hw hr]
theorem yes_t (u : ByteArray) : yesO (wYes ++ u) = some (true, u) := by rw [yesO, if_pos (preB_app _ _), nextR_app]
theorem yes_f (u : ByteArray) : yesO (wNo ++ u) = some (false, u) := by
  have h : preB (wNo ++ u) wYes = false := by unfold preB; rw [app_list]; rfl
  rw [yesO, if_neg (by rw [h]; decide), hear_app]; rfl
theorem txn_back {names : List ByteArray} (hn : rollB names = true) {t : Tx} (ht : mayTx t = true) {w : ByteArray} (h : txnV names t = some w) : txnO names w = some (t, ⟨#[]⟩) := by
  obtain ⟨o, ho, rfl⟩ := Option.map_eq_some_iff.1 h
  have ht' := ht
  rw [mayTx] at ht
  simp only [Bool.and_eq_true, decide_eq_true_eq] at ht
  obtain ⟨⟨⟨⟨h1, h2⟩, h3⟩, h4⟩, h5⟩ := ht
  have hc := rIn h1
  have hsl : ∀ r, Stp sgOrg (slB ++ r) := fun r => Stp.app r ⟨47, [], rfl, by decide⟩
  have hsn : ∀ r, Stp sgNum (slB ++ r) := fun r => Stp.app r ⟨47, [], rfl, by decide⟩
  have hq := num_app (most := 65535) (n := t.seq) (by omega) (by omega) (by decide) (Stp.nil sgNum)
  rw [app_nul] at hq
  rw [app_assoc, app_assoc, txnO, org_app hn ho (hsl _), Option.bind_some]
  dsimp only
  rw [hear_app, Option.bind_some]
  dsimp only
  rw [num_app (by omega) (by omega) (by decide) (hsn _), Option.bind_some]
  dsimp only
  rw [hear_app, Option.bind_some]
  dsimp only
  rw [hq, Option.bind_some]
  dsimp only
  have e : (⟨(t.coord.toNat : Int), (t.epoch.toNat : Int), (t.seq.toNat : Int)⟩ : Tx) = t := by
    rw [Int.toNat_of_nonneg hc.1, Int.toNat_of_nonneg (by omega : 0 ≤ t.epoch), Int.toNat_of_nonneg (by omega : 0 ≤ t.seq)]
  rw [e, if_pos ht']
theorem gives_back {names : List ByteArray} (hn : rollB names = true) : ∀ (l : List Mb) (f : Bool) (k : Nat) {t : ByteArray}, l.length ≤ k → (∀ m ∈ l, GvP m ∧ m.digest.size < 1000000) → givesV names f l = some t →
    gvO names k (if f then colB else semB) t = some (l, ⟨#[]⟩) ∧ (t = ⟨#[]⟩ ∨ ∃ r, t = (if f then colB else semB) ++ r) ∧ l.length ≤ t.size
  | [], f, k, t, _, _, h => by
    cases h
    refine ⟨?_, .inl rfl, Nat.le_refl _⟩
    cases k with
    | zero => rfl
    | succ k => rw [gvO, if_pos rfl]
  | m :: l, f, 0, t, hk, _, _ => by simp at hk
  | m :: l, f, k + 1, t, hk, hp, h => by
    rw [givesV] at h
    obtain ⟨o, ho, h⟩ := Option.bind_eq_some_iff.1 h
    obtain ⟨w, hw, h⟩ := Option.bind_eq_some_iff.1 h
    obtain ⟨b, hb, h⟩ := Option.bind_eq_some_iff.1 h
    cases h
    obtain ⟨i1, i2, i3⟩ := gives_back hn l false k (by simpa using hk) (fun x hx => hp x (List.mem_cons_of_mem _ hx)) hb
    obtain ⟨⟨g1, g2⟩, g3⟩ := hp m List.mem_cons_self
    have hz : (if f = true then colB else semB).size = 2 := by cases f <;> rfl
    refine ⟨?_, .inr ⟨_, by rw [app_assoc, app_assoc]⟩, by rw [app_size, app_size, app_size, List.length_cons]; omega⟩
    unfold termV at hw
    split at hw
    rotate_left
    · cases hw
    cases hw
    rw [gvO, if_neg (by intro e; have := congrArg ByteArray.size e; rw [app_size, app_size, app_size] at this; have h0 : (⟨#[]⟩ : ByteArray).size = 0 := rfl; omega), app_assoc, app_assoc, hear_app, Option.bind_some]
    dsimp only
    rw [app_assoc, org_app hn ho (stp_sp (by decide) _), Option.bind_some]
    dsimp only
    rw [hear_app, Option.bind_some]
    dsimp only
    rw [term_app (sg := semB) (.inl rfl) (by rw [mayB, g2]; rfl) (by omega) i2, Option.bind_some]
    dsimp only
    rw [show gvO names k semB b = _ from i1, Option.bind_some]
    dsimp only
    rw [Int.toNat_of_nonneg (rIn g1).1]
theorem more_back : ∀ (l : List Sp) (k : Nat) {t : ByteArray}, l.length ≤ k → (∀ x ∈ l, SpP x) → stepsW false l = some t → moreO k t = some (l, ⟨#[]⟩) ∧ Pls t ∧ l.length ≤ t.size
  | [], k, t, _, _, h => by
    cases h
    refine ⟨?_, .inl rfl, Nat.le_refl _⟩
    cases k with
    | zero => rfl
    | succ k => rw [moreO, if_neg (by decide)]
  | x :: l, 0, t, hk, _, _ => by simp at hk
  | x :: l, k + 1, t, hk, hp, h => by
    rw [stepsW] at h
    obtain ⟨a, ha, h⟩ := Option.bind_eq_some_iff.1 h
    obtain ⟨b, hb, h⟩ := Option.bind_eq_some_iff.1 h
    cases h
    obtain ⟨i1, i2, i3⟩ := more_back l k (by simpa using hk) (fun y hy => hp y (List.mem_cons_of_mem _ hy)) hb
    have hz : plusB.size = 3 := rfl
    refine ⟨?_, .inr ⟨a ++ b, app_assoc _ _ _⟩, ?_⟩
    · show moreO (k + 1) ((plusB ++ a) ++ b) = _
      rw [app_assoc, moreO, if_pos (preB_app _ _), nextR_app, step_back (hp x List.mem_cons_self) ha i2, Option.bind_some]
      dsimp only
      rw [i1, Option.bind_some]
    · show _ ≤ ((plusB ++ a) ++ b).size
      rw [app_size, app_size, List.length_cons]; omega
theorem est_nothing : estO wNothing = none := by
  have h := word_app sgSp_ok (w := wNothing) (by decide) (Stp.nil sgSp)
  rw [app_nul] at h
  rw [estO, h]
  exact if_pos (by decide)
theorem steps_back {l : List Sp} (hp : ∀ x ∈ l, SpP x) {t : ByteArray} (h : stepsV l = some t) : stepsO t = some (l, ⟨#[]⟩) := by
  cases l with
  | nil => cases h; exact if_pos rfl
  | cons x l =>
    rw [stepsV, if_neg (by simp), stepsW] at h
    obtain ⟨a, ha, h⟩ := Option.bind_eq_some_iff.1 h
    obtain ⟨b, hb, h⟩ := Option.bind_eq_some_iff.1 h
    cases h
    obtain ⟨_, i2, i3⟩ := more_back l l.length (Nat.le_refl _) (fun y hy => hp y (List.mem_cons_of_mem _ hy)) hb
    obtain ⟨i1, _, _⟩ := more_back l b.size i3 (fun y hy => hp y (List.mem_cons_of_mem _ hy)) hb
    have hs := step_back (hp x List.mem_cons_self) ha i2
    show stepsO (a ++ b) = _
    rw [stepsO, if_neg (by intro e; rw [e, est_nothing] at hs; cases hs), hs, Option.bind_some]
    dsimp only
    rw [i1, Option.bind_some]
theorem beg_for {names : List ByteArray} (hn : rollB names = true) {o au : Int} {g : List Mb} (h2 : orgW au = true) (hp : ∀ m ∈ g, GvP m ∧ m.digest.size < 1000000) {w t : ByteArray} (ha : orgV names au.toNat = some w) (ht : givesV names true g = some t) :
    begO names o (wFor ++ (w ++ t)) = some (⟨1, o, au, 0, g, tz, false, []⟩, ⟨#[]⟩) := by
  obtain ⟨_, i2, i3⟩ := gives_back hn g true g.length (Nat.le_refl _) hp ht
  obtain ⟨i1, _, _⟩ := gives_back hn g true t.size i3 hp ht
  have hst : Stp sgOrg t := by
    rcases i2 with rfl | ⟨r, rfl⟩
    · exact Stp.nil _
    · exact Stp.app r ⟨58, [32], rfl, by decide⟩
  rw [begO, if_neg (by intro e; have h := congrArg (fun s : ByteArray => s.data.toList) e; rw [app_list] at h; simp [wFor, wAnew] at h), hear_app, Option.bind_some]
  dsimp only
  rw [org_app hn ha hst, Option.bind_some]
  dsimp only
  rw [show gvO names t.size colB t = _ from i1, Option.bind_some]
  dsimp only
  rw [Int.toNat_of_nonneg (rIn h2).1]
theorem aft_ex {p t : ByteArray} {o : Option ByteArray} (h : aft p o = some t) : ∃ u, o = some u ∧ t = p ++ u := by
  obtain ⟨u, h1, h2⟩ := Option.map_eq_some_iff.1 h
  exact ⟨u, h1, h2.symm⟩
theorem dig_app {w : ByteArray} (h : ∃ b l, w.data.toList = b :: l ∧ ((b.toNat : Int) < 48 ∨ 57 < (b.toNat : Int))) (r : ByteArray) : dig0 (w ++ r) = false := by
  obtain ⟨b, l, h1, h2⟩ := h
  unfold dig0
  rw [app_list, h1]
  show (decide _ && decide _) = false
  rw [Bool.and_eq_false_iff, decide_eq_false_iff_not, decide_eq_false_iff_not]
  omega
end Go.Proofs.YtladcmfbkiogbaaGreatDoor
namespace Go.Proofs.YtladcmfbkiogbaaGreatDoor
open Go.Chi Go.Lib
set_option maxRecDepth 10000
theorem dig_post {n : Int} (h : nmW n = true) : actO [] ((wPost ++ dgB n) ++ wComes) = some (⟨4, 0, 0, n, [], tz, false, []⟩, ⟨#[]⟩) ∧ postQ ((wPost ++ dgB n) ++ wComes) = true := by
  have hm := nIn h
  have hq : postQ ((wPost ++ dgB n) ++ wComes) = true := by
    rw [app_assoc, postQ, preB_app, nextR_app, Bool.true_and]
    unfold dig0
    rw [app_list]
    cases hl : (dgB n).data.toList with
    | nil => exact absurd hl (dec_ne n.toNat)
    | cons b m =>
      have := dec_digit n.toNat b (by show b ∈ (dgB n).data.toList; rw [hl]; exact List.mem_cons_self)
      show (decide _ && decide _) = true
      rw [Bool.and_eq_true, decide_eq_true_eq, decide_eq_true_eq]
      omega
  have hc := hear_app wComes ⟨#[]⟩
  rw [app_nul] at hc
  refine ⟨?_, hq⟩
  have hst : Stp sgNum wComes := .inr ⟨32, _, rfl, by decide⟩
  rw [actO, if_pos hq, app_assoc, nextR_app, postO, num_app hm.1 (by exact hm.2) (by decide) hst, Option.bind_some]
  dsimp only
  rw [hc, Option.bind_some, Int.toNat_of_nonneg hm.1]
theorem lineV_of {names : List ByteArray} {a : Aa} {t : ByteArray} (h4 : ¬ a.do_ = 4) (h : lineV names a = some t) : ∃ w u, orgV names a.org.toNat = some w ∧ verbV names a = some u ∧ t = w ++ u := by
  rw [lineV, if_neg h4] at h
  obtain ⟨w, hw, h⟩ := Option.bind_eq_some_iff.1 h
  obtain ⟨u, hu, h⟩ := aft_ex h
  exact ⟨w, u, hw, hu, h⟩
theorem act_back {names : List ByteArray} (hn : rollB names = true) {a : Aa} (ha : AcP a) (hd : ∀ m ∈ a.gives, m.digest.size < 1000000) {t : ByteArray} (h : lineV names a = some t) : actO names t = some (a, ⟨#[]⟩) := by
  have hs1 : ∀ r, Stp sgSp (sp1 ++ r) := fun r => stp_sp (by decide) r
  cases ha with
  | deliver n h1 =>
    cases h
    have := (dig_post h1).1
    have hq := (dig_post h1).2
    rw [actO, if_pos hq] at this ⊢
    exact this
  | begin_ o au g h1 h2 h3 h4 =>
    obtain ⟨w, u, hw, hu, rfl⟩ := lineV_of (by simp) h
    have hu : begV names ⟨1, o, au, 0, g, tz, false, []⟩ = some u := hu
    rw [begV] at hu
    obtain ⟨x, hx, hu⟩ := Option.bind_eq_some_iff.1 hu
    obtain ⟨y, hy, rfl⟩ := aft_ex hu
    have e : vBegins = sp1 ++ (wBegins ++ wFor) := by decide
    rw [e, app_assoc, app_assoc, app_assoc, act_app hn hw (by decide) (dig_app ⟨98, _, rfl, by decide⟩ _) (Stp.app (p := wFor) _ ⟨32, _, rfl, by decide⟩), verbO, if_pos rfl, Int.toNat_of_nonneg (rIn h1).1]
    exact beg_for hn h2 (fun m hm => ⟨h4 m hm, hd m hm⟩) hx hy
  | submit o tx y h1 h2 =>
    obtain ⟨w, u, hw, hu, rfl⟩ := lineV_of (by simp) h
    have hu : aft (if y = true then vYes else vNo) (txnV names tx) = some u := hu
    obtain ⟨x, hx, rfl⟩ := aft_ex hu
    have ht := txn_back hn h2 hx
    cases y
    · have e : vNo = sp1 ++ (wSays ++ (wNo ++ wTo)) := by decide
      rw [if_neg (by decide), e, app_assoc, app_assoc, app_assoc, act_app hn hw (by decide) (dig_app ⟨115, _, rfl, by decide⟩ _) (Stp.app (p := wNo) _ ⟨32, _, rfl, by decide⟩), verbO, if_neg (by decide), if_pos rfl, saysO, yes_f, Option.bind_some]
      dsimp only
      rw [hear_app, Option.bind_some]
      dsimp only
      rw [ht, Option.bind_some, Int.toNat_of_nonneg (rIn h1).1]
    · have e : vYes = sp1 ++ (wSays ++ (wYes ++ wTo)) := by decide
      rw [if_pos rfl, e, app_assoc, app_assoc, app_assoc, act_app hn hw (by decide) (dig_app ⟨115, _, rfl, by decide⟩ _) (Stp.app (p := wYes) _ ⟨32, _, rfl, by decide⟩), verbO, if_neg (by decide), if_pos rfl, saysO, yes_t, Option.bind_some]
      dsimp only
      rw [hear_app, Option.bind_some]
      dsimp only
      rw [ht, Option.bind_some, Int.toNat_of_nonneg (rIn h1).1]
  | tick o h1 =>
    obtain ⟨w, u, hw, hu, rfl⟩ := lineV_of (by simp) h
    cases hu
    have e : vTicks = sp1 ++ (wTicks ++ ⟨#[]⟩) := by decide
    rw [e, act_app hn hw (by decide) (dig_app ⟨116, _, rfl, by decide⟩ _) (Stp.nil _), verbO, if_neg (by decide), if_neg (by decide), if_pos rfl, Int.toNat_of_nonneg (rIn h1).1]
  | restart o h1 =>
    obtain ⟨w, u, hw, hu, rfl⟩ := lineV_of (by simp) h
    cases hu
    have e : vAnew = sp1 ++ (wBegins ++ wAnew) := by decide
    rw [e, act_app hn hw (by decide) (dig_app ⟨98, _, rfl, by decide⟩ _) (.inr ⟨32, _, rfl, by decide⟩), verbO, if_pos rfl, begO, if_pos rfl, Int.toNat_of_nonneg (rIn h1).1]
  | arm o n h1 h2 =>
    obtain ⟨w, u, hw, hu, rfl⟩ := lineV_of (by simp) h
    cases hu
    have hm := nIn h2
    have hq := num_app (most := 2147483647) hm.1 (by exact hm.2) (by decide) (Stp.nil sgNum)
    rw [app_nul] at hq
    have e : vStops = sp1 ++ (wStops ++ wBehind) := by decide
    rw [e, app_assoc, app_assoc, act_app hn hw (by decide) (dig_app ⟨115, _, rfl, by decide⟩ _) (Stp.app (p := wBehind) _ ⟨32, _, rfl, by decide⟩), verbO, if_neg (by decide), if_neg (by decide), if_neg (by decide), if_neg (by decide), if_neg (by decide), if_pos rfl, nmO, hear_app, Option.bind_some]
    dsimp only
    rw [hq, Option.bind_some, Int.toNat_of_nonneg (rIn h1).1, Int.toNat_of_nonneg hm.1]
  | crash o n h1 h2 =>
    obtain ⟨w, u, hw, hu, rfl⟩ := lineV_of (by simp) h
    cases hu
    have hm := nIn h2
    have hq := num_app (most := 2147483647) hm.1 (by exact hm.2) (by decide) (Stp.nil sgNum)
    rw [app_nul] at hq
    have e : vCrash = sp1 ++ (wCrashes ++ wKeeps) := by decide
    rw [e, app_assoc, app_assoc, act_app hn hw (by decide) (dig_app ⟨99, _, rfl, by decide⟩ _) (Stp.app (p := wKeeps) _ ⟨32, _, rfl, by decide⟩), verbO, if_neg (by decide), if_neg (by decide), if_neg (by decide), if_neg (by decide), if_neg (by decide), if_neg (by decide), if_pos rfl, nmO, hear_app, Option.bind_some]
    dsimp only
    rw [hq, Option.bind_some, Int.toNat_of_nonneg (rIn h1).1, Int.toNat_of_nonneg hm.1]
  | inject o l h1 h2 h3 =>
    obtain ⟨w, u, hw, hu, rfl⟩ := lineV_of (by simp) h
    have hu : aft vGets (stepsV l) = some u := hu
    obtain ⟨x, hx, rfl⟩ := aft_ex hu
    have e : vGets = sp1 ++ (wGets ++ sp1) := by decide
    rw [e, app_assoc, app_assoc, act_app hn hw (by decide) (dig_app ⟨103, _, rfl, by decide⟩ _) (hs1 _), verbO, if_neg (by decide), if_neg (by decide), if_neg (by decide), if_pos rfl, stpO, hear_app, Option.bind_some]
    dsimp only
    rw [steps_back h3 hx, Option.bind_some, Int.toNat_of_nonneg (rIn h1).1]
  | present o l h1 h2 h3 =>
    obtain ⟨w, u, hw, hu, rfl⟩ := lineV_of (by simp) h
    have hu : aft vJudges (stepsV l) = some u := hu
    obtain ⟨x, hx, rfl⟩ := aft_ex hu
    have e : vJudges = sp1 ++ (wJudges ++ sp1) := by decide
    rw [e, app_assoc, app_assoc, act_app hn hw (by decide) (dig_app ⟨106, _, rfl, by decide⟩ _) (hs1 _), verbO, if_neg (by decide), if_neg (by decide), if_neg (by decide), if_neg (by decide), if_pos rfl, stpO, hear_app, Option.bind_some]
    dsimp only
    rw [steps_back h3 hx, Option.bind_some, Int.toNat_of_nonneg (rIn h1).1]
  | exprt o tx h1 h2 =>
    obtain ⟨w, u, hw, hu, rfl⟩ := lineV_of (by simp) h
    have hu : aft vShows (txnV names tx) = some u := hu
    obtain ⟨x, hx, rfl⟩ := aft_ex hu
    have e : vShows = sp1 ++ (wShows ++ sp1) := by decide
    rw [e, app_assoc, app_assoc, act_app hn hw (by decide) (dig_app ⟨115, _, rfl, by decide⟩ _) (hs1 _), verbO, if_neg (by decide), if_neg (by decide), if_neg (by decide), if_neg (by decide), if_neg (by decide), if_neg (by decide), if_neg (by decide), if_pos rfl, shwO, hear_app, Option.bind_some]
    dsimp only
    rw [txn_back hn h2 hx, Option.bind_some, Int.toNat_of_nonneg (rIn h1).1]
theorem line_some {names : List ByteArray} {a : Aa} (h : (lineA names a).2 = 0) : rollB names = true ∧ AcP a ∧ lineV names a = some (lineA names a).1 := by
  unfold lineA at h ⊢
  split at h
  · rename_i hc
    rw [if_pos hc]
    revert h
    cases lineV names a with
    | none => intro h; cases h
    | some t => intro _; exact ⟨hc.1, (chkS_iff a).1 hc.2, rfl⟩
  · cases h
theorem line_back_ {names : List ByteArray} {a : Aa} (h : (lineA names a).2 = 0) (hd : ∀ m ∈ a.gives, m.digest.size < 1000000) : parseA names (lineA names a).1 = (a, 0) := by
  obtain ⟨h1, h2, h3⟩ := line_some h
  rw [parseA, if_pos h1, parseP, act_back h1 h2 hd h3, Option.bind_some, if_pos ⟨rfl, (chkS_iff a).2 h2⟩]
theorem line_inj {names : List ByteArray} {a b : Aa} (ha : (lineA names a).2 = 0) (hb : (lineA names b).2 = 0) (hda : ∀ m ∈ a.gives, m.digest.size < 1000000) (hdb : ∀ m ∈ b.gives, m.digest.size < 1000000) (e : (lineA names a).1 = (lineA names b).1) : a = b := by
  have h1 := line_back_ ha hda
  rw [e, line_back_ hb hdb] at h1
  exact (congrArg Prod.fst h1).symm
end Go.Proofs.YtladcmfbkiogbaaGreatDoor
namespace Go.Proofs.YtladcmfbkiogbaaGreatDoor
open Go.Chi
set_option maxRecDepth 10000
structure AxIn (M : Mem) (x : Ax) : Prop where
  gives : x.gives.Ok M
  steps : SlM M 7 x.steps.a x.steps.len (x.steps.xs.map srC)
  each : ∀ y ∈ x.steps.xs, SlM M 1 y.list.a y.list.len (y.list.xs.map inC)
structure SaIn (M : Mem) (s : SAx) : Prop where
  sl : SlM M 10 s.a s.len (s.xs.map axC)
  each : ∀ x ∈ s.xs, AxIn M x
structure LimA (x : Ax) : Prop where
  g : x.gives.len ≤ 20
  s : x.steps.len ≤ 100
  pay : ∀ m ∈ x.gives.xs, m.digest.size ≤ 8192
  step : ∀ y ∈ x.steps.xs, y.text.size ≤ 4096 ∧ y.list.len ≤ 100
def LimL (s : SAx) : Prop := s.len ≤ 60 ∧ ∀ x ∈ s.xs, LimA x
theorem SaIn.ok {M : Mem} {s : SAx} (h : SaIn M s) (hl : LimL s) : SaOk M s := by
  refine ⟨h.sl, by have := hl.1; omega, fun x hx => ?_⟩
  have h1 := h.each x hx
  have h2 := hl.2 x hx
  refine ⟨⟨h1.gives, by have := h2.g; omega⟩, ⟨h1.steps, by have := h2.s; omega, fun y hy => ⟨⟨h1.each y hy, by have := (h2.step y hy).2; omega⟩, by have := (h2.step y hy).1; omega⟩⟩, fun m hm => by have := h2.pay m hm; omega⟩
theorem SaIn.le {M M' : Mem} {s : SAx} (hm : M.le M') (h : SaIn M s) : SaIn M' s := ⟨h.sl.le hm, fun x hx => ⟨(h.each x hx).gives.le hm, (h.each x hx).steps.le hm, fun y hy => ((h.each x hx).each y hy).le hm⟩⟩
theorem all_cons_snoc {α : Type} {xs : List α} {j : Nat} {x : α} {P : α → Prop} (hx : xs[j]? = some x) (h : ∀ y ∈ xs.take j, P y) (hp : P x) : ∀ y ∈ xs.take (j + 1), P y := by
  intro y hy
  rw [take_snoc hx] at hy
  rcases List.mem_append.1 hy with hy | hy
  · exact h y hy
  · rw [List.mem_singleton.1 hy]; exact hp
set_option maxRecDepth 10000 in
set_option maxHeartbeats 32000000 in
theorem slong_ok (M : Mem) (L : HL) (s : SAx) (hs : SaIn M s) : Tr Tryz.prog 9 [s.v] M L (fun v M' L' => M = M' ∧ L = L' ∧ ∃ b : Bool, v = .bool b ∧ (b = false → LimL s)) := by
  have hlen : s.xs.length = s.len := by have := hs.sl.1; simpa using this
  obtain ⟨la, ln, lc, xs⟩ := s
  simp only [SAx.v] at *
  refine Tr.intro 113 Tryz.func9 rfl rfl Tryz.call9 rfl ?_; intro C hC hro
  repeat (first | refine zz ?_ | refine zx fun _ => ?_)
  refine run_cond rfl (fun h => ?_) (fun h => ?_)
  · repeat (first | refine zz ?_ | refine zx fun _ => ?_)
    exact run_ret hC (rs := [.tmp 2]) rfl (resT rfl resN) (fun _ h => h) ⟨rfl, rfl, true, rfl, fun e => by cases e⟩
  have h60 : ln ≤ 60 := by have := of_decide_eq_false h; omega
  clear h
  repeat (first | refine zz ?_ | refine zx fun _ => ?_)
  refine run_loopN (fun j σ1 M1 L1 => j ≤ ln ∧ M = M1 ∧ L = L1 ∧ (∀ x ∈ xs.take j, LimA x) ∧ ∃ n : Int, σ1 = [(4, .int .i64 (j : Int)), (3, .int .i64 n), (0, .slice la ln lc)]) ln [(4, .int .i64 ((0 : Nat) : Int)), (3, .int .i64 0), (0, .slice la ln lc)] ?_ ⟨Nat.zero_le _, rfl, rfl, by simp, 0, rfl⟩ (fun j _ _ _ h => h.1) ?_
  · exact ⟨rfl, rfl, rfl, trivial⟩
  rintro j _ _ _ ⟨hj, rfl, rfl, hpre, n, rfl⟩ hnext
  repeat (first | refine zz ?_ | refine zx fun _ => ?_)
  refine run_cond rfl (fun h => ?_) (fun h => ?_)
  rotate_left
  · have hge : j = ln := by simp at h; omega
    subst hge
    rw [List.take_of_length_le (by omega)] at hpre
    repeat (first | refine zz ?_ | refine zx fun _ => ?_)
    exact run_ret hC (rs := [.tmp 2]) rfl (resT rfl resN) (fun _ h => h) ⟨rfl, rfl, _, rfl, fun _ => ⟨h60, hpre⟩⟩
  have hlt : j < ln := by simpa using h
  obtain ⟨b, off, x, rfl, hx, hc⟩ := SAx.at_ hs.sl hlt
  have hxi := hs.each x (List.mem_of_getElem? hx)
  have gl : x.gives.xs.length = x.gives.len := by have := hxi.gives.1; simpa using this
  have sl : x.steps.xs.length = x.steps.len := by have := hxi.steps.1; simpa using this
  repeat (first | refine zz ?_ | refine zx fun _ => ?_ | refine runL_q (qt_indexN tok rfl rfl rfl rfl (fun _ => by omega)) rfl rfl rfl ?_ | refine runL_g rfl rfl (qt_indexN tok rfl rfl rfl rfl (fun _ => by omega)) rfl rfl rfl rfl rfl ?_ | refine runL_q (qt_ldM tok rfl hc rfl) rfl rfl rfl ?_ | refine runL_g rfl rfl (qt_ldM tok rfl hc rfl) rfl rfl rfl rfl rfl ?_ | refine runL_q (qt_ldM0 tok rfl hc rfl) rfl rfl rfl ?_ | refine runL_g rfl rfl (qt_ldM0 tok rfl hc rfl) rfl rfl rfl rfl rfl ?_)
  refine run_cond rfl (fun h => ?_) (fun h => ?_)
  · repeat (first | refine zz ?_ | refine zx fun _ => ?_)
    exact run_ret hC (rs := [.tmp 2]) rfl (resT rfl resN) (fun _ h => h) ⟨rfl, rfl, true, rfl, fun e => by cases e⟩
  have h20 : x.gives.len ≤ 20 ∧ x.steps.len ≤ 100 := by
    have h' : (decide ((x.gives.len : Int) > 20) || decide ((x.steps.len : Int) > 100)) = false := h
    simp only [Bool.or_eq_false_iff, decide_eq_false_iff_not] at h'
    omega
  clear h
  repeat (first | refine zz ?_ | refine zx fun _ => ?_)
  refine run_loopN (fun k σ1 M1 L1 => k ≤ x.gives.len ∧ M = M1 ∧ L = L1 ∧ (∀ m ∈ x.gives.xs.take k, m.digest.size ≤ 8192) ∧ ∃ n : Int, σ1 = [(5, .int .i64 (k : Int)), (4, .int .i64 (j : Int)), (3, .int .i64 n), (0, .slice (some ⟨b, off, none⟩) ln lc)]) x.gives.len [(5, .int .i64 ((0 : Nat) : Int)), (4, .int .i64 (j : Int)), (3, .int .i64 n), (0, .slice (some ⟨b, off, none⟩) ln lc)] ?_ ⟨Nat.zero_le _, rfl, rfl, by simp, n, rfl⟩ (fun k _ _ _ h => h.1) ?_
  · exact ⟨rfl, rfl, rfl, rfl, trivial⟩
  rintro k _ _ _ ⟨hk, rfl, rfl, hpreg, n1, rfl⟩ hnx
  repeat (first | refine zz ?_ | refine zx fun _ => ?_ | refine runL_q (qt_indexN tok rfl rfl rfl rfl (fun _ => by omega)) rfl rfl rfl ?_ | refine runL_g rfl rfl (qt_indexN tok rfl rfl rfl rfl (fun _ => by omega)) rfl rfl rfl rfl rfl ?_ | refine runL_q (qt_ldM tok rfl hc rfl) rfl rfl rfl ?_ | refine runL_g rfl rfl (qt_ldM tok rfl hc rfl) rfl rfl rfl rfl rfl ?_ | refine runL_q (qt_ldM0 tok rfl hc rfl) rfl rfl rfl ?_ | refine runL_g rfl rfl (qt_ldM0 tok rfl hc rfl) rfl rfl rfl rfl rfl ?_)
  refine run_cond rfl (fun h => ?_) (fun h => ?_)
  · have hkt : k < x.gives.len := by simpa using h
    obtain ⟨b2, off2, m, hma, hm, hc2⟩ := SMb.at_ hxi.gives hkt
    have hv : x.gives.v = .slice (some ⟨b2, off2, none⟩) x.gives.len x.gives.cap := by rw [← hma]; rfl
    repeat (first | refine zz ?_ | refine zx fun _ => ?_ | refine runL_q (qt_indexN tok rfl rfl rfl rfl (fun _ => by omega)) rfl rfl rfl ?_ | refine runL_g rfl rfl (qt_indexN tok rfl rfl rfl rfl (fun _ => by omega)) rfl rfl rfl rfl rfl ?_ | refine runL_q (qt_ldM tok rfl hc rfl) rfl rfl rfl ?_ | refine runL_g rfl rfl (qt_ldM tok rfl hc rfl) rfl rfl rfl rfl rfl ?_ | refine runL_q (qt_ldM0 tok rfl hc rfl) rfl rfl rfl ?_ | refine runL_g rfl rfl (qt_ldM0 tok rfl hc rfl) rfl rfl rfl rfl rfl ?_)
    refine runL_as 46 (.slice (some ⟨b2, off2, none⟩) x.gives.len x.gives.cap) rfl hv ?_
    repeat (first | refine zz ?_ | refine zx fun _ => ?_ | refine runL_q (qt_indexN tok rfl rfl rfl rfl (fun _ => by omega)) rfl rfl rfl ?_ | refine runL_g rfl rfl (qt_indexN tok rfl rfl rfl rfl (fun _ => by omega)) rfl rfl rfl rfl rfl ?_ | refine runL_q (qt_ldM tok rfl hc2 rfl) rfl rfl rfl ?_ | refine runL_g rfl rfl (qt_ldM tok rfl hc2 rfl) rfl rfl rfl rfl rfl ?_ | refine runL_q (qt_ldM0 tok rfl hc2 rfl) rfl rfl rfl ?_ | refine runL_g rfl rfl (qt_ldM0 tok rfl hc2 rfl) rfl rfl rfl rfl rfl ?_)
    refine run_cond rfl (fun h => ?_) (fun h => ?_)
    · repeat (first | refine zz ?_ | refine zx fun _ => ?_)
      exact run_ret hC (rs := [.tmp 2]) rfl (resT rfl resN) (fun _ h => h) ⟨rfl, rfl, true, rfl, fun e => by cases e⟩
    have h8 : m.digest.size ≤ 8192 := by have := of_decide_eq_false h; omega
    repeat (first | refine zz ?_ | refine zx fun _ => ?_ | refine runL_q (qt_indexN tok rfl rfl rfl rfl (fun _ => by omega)) rfl rfl rfl ?_ | refine runL_g rfl rfl (qt_indexN tok rfl rfl rfl rfl (fun _ => by omega)) rfl rfl rfl rfl rfl ?_ | refine runL_q (qt_ldM tok rfl hc rfl) rfl rfl rfl ?_ | refine runL_g rfl rfl (qt_ldM tok rfl hc rfl) rfl rfl rfl rfl rfl ?_ | refine runL_q (qt_ldM0 tok rfl hc rfl) rfl rfl rfl ?_ | refine runL_g rfl rfl (qt_ldM0 tok rfl hc rfl) rfl rfl rfl rfl rfl ?_)
    refine runL_as 58 (.slice (some ⟨b2, off2, none⟩) x.gives.len x.gives.cap) rfl hv ?_
    repeat (first | refine zz ?_ | refine zx fun _ => ?_ | refine runL_q (qt_indexN tok rfl rfl rfl rfl (fun _ => by omega)) rfl rfl rfl ?_ | refine runL_g rfl rfl (qt_indexN tok rfl rfl rfl rfl (fun _ => by omega)) rfl rfl rfl rfl rfl ?_ | refine runL_q (qt_ldM tok rfl hc2 rfl) rfl rfl rfl ?_ | refine runL_g rfl rfl (qt_ldM tok rfl hc2 rfl) rfl rfl rfl rfl rfl ?_ | refine runL_q (qt_ldM0 tok rfl hc2 rfl) rfl rfl rfl ?_ | refine runL_g rfl rfl (qt_ldM0 tok rfl hc2 rfl) rfl rfl rfl rfl rfl ?_)
    exact run_sub' (hnx _ _ _ ⟨hkt, rfl, rfl, all_cons_snoc hm hpreg h8, _, rfl⟩) ⟨lk_succ rfl (by omega), rfl, rfl, rfl, trivial⟩
  have hgeg : k = x.gives.len := by simp at h; omega
  rw [hgeg, List.take_of_length_le (by omega)] at hpreg
  clear hnx h
  repeat (first | refine zz ?_ | refine zx fun _ => ?_)
  refine run_loopN (fun k σ1 M1 L1 => k ≤ x.steps.len ∧ M = M1 ∧ L = L1 ∧ (∀ y ∈ x.steps.xs.take k, y.text.size ≤ 4096 ∧ y.list.len ≤ 100) ∧ ∃ n : Int, σ1 = [(6, .int .i64 (k : Int)), (4, .int .i64 (j : Int)), (3, .int .i64 n), (0, .slice (some ⟨b, off, none⟩) ln lc)]) x.steps.len [(6, .int .i64 ((0 : Nat) : Int)), (4, .int .i64 (j : Int)), (3, .int .i64 n1), (0, .slice (some ⟨b, off, none⟩) ln lc)] ?_ ⟨Nat.zero_le _, rfl, rfl, by simp, n1, rfl⟩ (fun k _ _ _ h => h.1) ?_
  · exact ⟨rfl, rfl, rfl, rfl, trivial⟩
  rintro i _ _ _ ⟨hi, rfl, rfl, hpres, n2, rfl⟩ hnx
  repeat (first | refine zz ?_ | refine zx fun _ => ?_ | refine runL_q (qt_indexN tok rfl rfl rfl rfl (fun _ => by omega)) rfl rfl rfl ?_ | refine runL_g rfl rfl (qt_indexN tok rfl rfl rfl rfl (fun _ => by omega)) rfl rfl rfl rfl rfl ?_ | refine runL_q (qt_ldM tok rfl hc rfl) rfl rfl rfl ?_ | refine runL_g rfl rfl (qt_ldM tok rfl hc rfl) rfl rfl rfl rfl rfl ?_ | refine runL_q (qt_ldM0 tok rfl hc rfl) rfl rfl rfl ?_ | refine runL_g rfl rfl (qt_ldM0 tok rfl hc rfl) rfl rfl rfl rfl rfl ?_)
  refine run_cond rfl (fun h => ?_) (fun h => ?_)
  · have hkt : i < x.steps.len := by simpa using h
    obtain ⟨b2, off2, y, hma, hm, hc2⟩ := SSr.at_ hxi.steps hkt
    have hv : x.steps.v = .slice (some ⟨b2, off2, none⟩) x.steps.len x.steps.cap := by rw [← hma]; rfl
    repeat (first | refine zz ?_ | refine zx fun _ => ?_ | refine runL_q (qt_indexN tok rfl rfl rfl rfl (fun _ => by omega)) rfl rfl rfl ?_ | refine runL_g rfl rfl (qt_indexN tok rfl rfl rfl rfl (fun _ => by omega)) rfl rfl rfl rfl rfl ?_ | refine runL_q (qt_ldM tok rfl hc rfl) rfl rfl rfl ?_ | refine runL_g rfl rfl (qt_ldM tok rfl hc rfl) rfl rfl rfl rfl rfl ?_ | refine runL_q (qt_ldM0 tok rfl hc rfl) rfl rfl rfl ?_ | refine runL_g rfl rfl (qt_ldM0 tok rfl hc rfl) rfl rfl rfl rfl rfl ?_)
    refine runL_as 79 (.slice (some ⟨b2, off2, none⟩) x.steps.len x.steps.cap) rfl hv ?_
    repeat (first | refine zz ?_ | refine zx fun _ => ?_ | refine runL_g rfl rfl (Qt.as (v' := Value.slice (some ⟨b2, off2, none⟩) x.steps.len x.steps.cap) (qt_ldM tok rfl hc rfl) hv) rfl rfl rfl rfl rfl ?_ | refine runL_q (qt_indexN tok rfl rfl rfl rfl (fun _ => by omega)) rfl rfl rfl ?_ | refine runL_g rfl rfl (qt_indexN tok rfl rfl rfl rfl (fun _ => by omega)) rfl rfl rfl rfl rfl ?_ | refine runL_q (qt_ldM tok rfl hc2 rfl) rfl rfl rfl ?_ | refine runL_g rfl rfl (qt_ldM tok rfl hc2 rfl) rfl rfl rfl rfl rfl ?_ | refine runL_q (qt_ldM0 tok rfl hc2 rfl) rfl rfl rfl ?_ | refine runL_g rfl rfl (qt_ldM0 tok rfl hc2 rfl) rfl rfl rfl rfl rfl ?_ | refine runL_q (qt_indexN tok rfl rfl rfl rfl (fun _ => by omega)) rfl rfl rfl ?_ | refine runL_g rfl rfl (qt_indexN tok rfl rfl rfl rfl (fun _ => by omega)) rfl rfl rfl rfl rfl ?_ | refine runL_q (qt_ldM tok rfl hc rfl) rfl rfl rfl ?_ | refine runL_g rfl rfl (qt_ldM tok rfl hc rfl) rfl rfl rfl rfl rfl ?_ | refine runL_q (qt_ldM0 tok rfl hc rfl) rfl rfl rfl ?_ | refine runL_g rfl rfl (qt_ldM0 tok rfl hc rfl) rfl rfl rfl rfl rfl ?_)
    refine run_cond rfl (fun h => ?_) (fun h => ?_)
    · repeat (first | refine zz ?_ | refine zx fun _ => ?_)
      exact run_ret hC (rs := [.tmp 2]) rfl (resT rfl resN) (fun _ h => h) ⟨rfl, rfl, true, rfl, fun e => by cases e⟩
    have h8 : y.text.size ≤ 4096 ∧ y.list.len ≤ 100 := by
      have h' : (decide ((y.text.size : Int) > 4096) || decide ((y.list.len : Int) > 100)) = false := h
      simp only [Bool.or_eq_false_iff, decide_eq_false_iff_not] at h'
      omega
    repeat (first | refine zz ?_ | refine zx fun _ => ?_ | refine runL_q (qt_indexN tok rfl rfl rfl rfl (fun _ => by omega)) rfl rfl rfl ?_ | refine runL_g rfl rfl (qt_indexN tok rfl rfl rfl rfl (fun _ => by omega)) rfl rfl rfl rfl rfl ?_ | refine runL_q (qt_ldM tok rfl hc rfl) rfl rfl rfl ?_ | refine runL_g rfl rfl (qt_ldM tok rfl hc rfl) rfl rfl rfl rfl rfl ?_ | refine runL_q (qt_ldM0 tok rfl hc rfl) rfl rfl rfl ?_ | refine runL_g rfl rfl (qt_ldM0 tok rfl hc rfl) rfl rfl rfl rfl rfl ?_)
    refine runL_as 104 (.slice (some ⟨b2, off2, none⟩) x.steps.len x.steps.cap) rfl hv ?_
    repeat (first | refine zz ?_ | refine zx fun _ => ?_ | refine runL_q (qt_indexN tok rfl rfl rfl rfl (fun _ => by omega)) rfl rfl rfl ?_ | refine runL_g rfl rfl (qt_indexN tok rfl rfl rfl rfl (fun _ => by omega)) rfl rfl rfl rfl rfl ?_ | refine runL_q (qt_ldM tok rfl hc2 rfl) rfl rfl rfl ?_ | refine runL_g rfl rfl (qt_ldM tok rfl hc2 rfl) rfl rfl rfl rfl rfl ?_ | refine runL_q (qt_ldM0 tok rfl hc2 rfl) rfl rfl rfl ?_ | refine runL_g rfl rfl (qt_ldM0 tok rfl hc2 rfl) rfl rfl rfl rfl rfl ?_)
    exact run_sub' (hnx _ _ _ ⟨hkt, rfl, rfl, all_cons_snoc hm hpres h8, _, rfl⟩) ⟨lk_succ rfl (by omega), rfl, rfl, rfl, trivial⟩
  have hges : i = x.steps.len := by simp at h; omega
  rw [hges, List.take_of_length_le (by omega)] at hpres
  repeat (first | refine zz ?_ | refine zx fun _ => ?_)
  exact run_sub' (hnext _ _ _ ⟨hlt, rfl, rfl, all_cons_snoc hx hpre ⟨h20.1, h20.2, hpreg, hpres⟩, _, rfl⟩) ⟨lk_succ rfl (by omega), rfl, rfl, trivial⟩
end Go.Proofs.YtladcmfbkiogbaaGreatDoor
namespace Go.Proofs.YtladcmfbkiogbaaGreatDoor
open Go.Chi Go.Lib
set_option maxRecDepth 10000
theorem AxIn.le {M M' : Mem} {x : Ax} (hm : M.le M') (h : AxIn M x) : AxIn M' x := ⟨h.gives.le hm, h.steps.le hm, fun y hy => (h.each y hy).le hm⟩
set_option maxHeartbeats 16000000 in
theorem textUnlike_ok (M : Mem) (L : HL) (hG : G38 M) (A : SStr) (hA : A.Ok M) (hca : A.len ≤ A.cap) (x y : Ax) (hx : AxIn M x) (hy : AxIn M y) : Tr Tryz.prog 5 [A.v, .agg ⟨axC x⟩, .agg ⟨axC y⟩] M L (fun v M' L' => M.le M' ∧ L' = L ∧ v = .bool true) := by
  have hlo1 := fun L => long_ok M L A hA ⟨#[]⟩
  refine Tr.intro 50 Tryz.func5 rfl rfl Tryz.call5 rfl ?_; intro C hC hro
  refine run_seq ?_
  refine run_region ?_
  refine yx fun b4 => ?_
  refine yx fun b5 => ?_
  cases hq1 : longA A.xs ⟨#[]⟩ with
  | true =>
    rw [hq1] at hlo1
    repeat (first | refine zc ?_ | refine vq ?_)
    refine qc (hlo1 _) ?_
    repeat (first | refine yk ?_ | refine yx fun _ => ?_)
    refine run_cond (t := true) rfl (fun _ => ?_) (fun h => by cases h)
    repeat (first | refine zc ?_)
    refine oc (alive_ok _ _ hG) ?_
    rintro _ M2 _ ⟨hM2, rfl, rfl⟩
    repeat (first | refine yy ?_ | refine yx fun _ => ?_)
    exact run_ret hC (rs := [.tmp 6]) rfl (resT rfl resN) (fun _ h => h.drop.drop) ⟨hM2, rfl, rfl⟩
  | false =>
  rw [hq1] at hlo1
  obtain ⟨la1, la2, la3⟩ := longA_no hq1
  have hA : StOk M A := ⟨hA, by have := hA.1; simp at this; omega⟩
  have hza : ∀ x ∈ A.xs, x.size < 1000000 := fun x hx => by have := la3 x hx; omega
  repeat (first | refine zc ?_ | refine vq ?_)
  refine qc (hlo1 _) ?_
  iterate 3 refine yk ?_
  refine yx fun b16 => ?_
  refine runL_frzL [_] fun M1 hM1 hb1 => ?_
  have hsa : SaIn M1 ⟨some ⟨b16, 0, none⟩, 2, 2, [x, y]⟩ := by
    refine ⟨SlM.ofBlk (size := 10) (ls := [axC x, axC y]) (hb1 _ List.mem_cons_self) rfl (fun l hl => ?_), fun z hz => ?_⟩
    · rcases List.mem_cons.1 hl with rfl | hl
      · rfl
      · obtain rfl := List.mem_singleton.1 hl; rfl
    · rcases List.mem_cons.1 hz with rfl | hz
      · exact hx.le hM1
      · obtain rfl := List.mem_singleton.1 hz; exact hy.le hM1
  refine ok (slong_ok _ _ _ hsa) ?_
  rintro _ _ _ ⟨rfl, rfl, bv, rfl, hlim⟩
  cases bv with
  | true =>
    repeat (first | refine yk ?_ | refine yx fun _ => ?_)
    refine run_cond (t := true) rfl (fun _ => ?_) (fun h => by cases h)
    repeat (first | refine zc ?_)
    refine oc (alive_ok _ _ (hG.le hM1)) ?_
    rintro _ M2 _ ⟨hM2, rfl, rfl⟩
    repeat (first | refine yy ?_ | refine yx fun _ => ?_)
    exact run_ret hC (rs := [.tmp 6]) rfl (resT rfl resN) (fun _ h => h.drop.drop) ⟨Mem.le_trans hM1 hM2, rfl, rfl⟩
  | false =>
  have hli := hlim rfl
  have hso := hsa.ok hli
  have hax : AxOk M1 x := hso.each x List.mem_cons_self
  have hay : AxOk M1 y := hso.each y (List.mem_cons_of_mem _ List.mem_cons_self)
  have hdx : ∀ m ∈ x.aa.gives, m.digest.size < 1000000 := fun m hm => by have := (hli.2 x List.mem_cons_self).pay m hm; omega
  have hdy : ∀ m ∈ y.aa.gives, m.digest.size < 1000000 := fun m hm => by have := (hli.2 y (List.mem_cons_of_mem _ List.mem_cons_self)).pay m hm; omega
  repeat (first | refine yk ?_ | refine yx fun _ => ?_)
  refine run_cond (t := false) rfl (fun h => by cases h) (fun _ => ?_)
  have hl1 := fun L => tline_ok M1 L (hG.le hM1) A (hA.le hM1) hca hza x hax
  have hl2 := fun L => tline_ok M1 L (hG.le hM1) A (hA.le hM1) hca hza y hay
  have hinj : (lineA A.xs x.aa).2 = 0 → (lineA A.xs y.aa).2 = 0 → ((lineA A.xs x.aa).1 = (lineA A.xs y.aa).1 ↔ x.aa = y.aa) := fun h1 h2 => ⟨line_inj h1 h2 hdx hdy, fun e => by rw [e]⟩
  generalize lineA A.xs x.aa = p1 at *
  generalize lineA A.xs y.aa = p2 at *
  repeat (first | refine zc ?_ | refine vq ?_)
  refine qc (hl1 _) ?_
  repeat (first | refine yy ?_ | refine yx fun _ => ?_)
  refine qc (hl2 _) ?_
  repeat (first | refine yy ?_ | refine yx fun _ => ?_)
  by_cases hbad : (p1.2 != 0 || p2.2 != 0) = true
  · refine runL_as 38 (.bool true) rfl (congrArg Value.bool hbad) ?_
    repeat (first | refine yk ?_ | refine yx fun _ => ?_)
    refine ok (alive_ok _ _ (hG.le hM1)) ?_
    rintro _ M4 _ ⟨hM4, rfl, rfl⟩
    repeat (first | refine yk ?_ | refine yx fun _ => ?_)
    exact run_ret hC (rs := [.tmp 6]) rfl (resT rfl resN) (fun _ h => h.drop.drop) ⟨Mem.le_trans hM1 hM4, rfl, rfl⟩
  · have hgood : p1.2 = 0 ∧ p2.2 = 0 := by simpa using hbad
    refine runL_as 38 (.bool false) rfl (by congr 1; simpa using hbad) ?_
    have hq := hinj hgood.1 hgood.2
    have hsm := fun L r hr => refSameAct_ok M1 L x y hax hay r hr
    have key : ∀ r : Bool, (r = true ↔ x.aa = y.aa) → (p1.1.toList == p2.1.toList) = r := fun r hr => by
      rw [Bool.eq_iff_iff, hr, ← hq, bytes_beq]
      simp
    obtain ⟨r, hr⟩ : ∃ r : Bool, (r = true ↔ x.aa = y.aa) := by
      by_cases he : x.aa = y.aa
      · exact ⟨true, ⟨fun _ => he, fun _ => rfl⟩⟩
      · exact ⟨false, ⟨fun h => (by cases h), fun h => absurd h he⟩⟩
    have hk := key r hr
    refine kc (hsm _ r hr) ?_
    repeat (first | refine yk ?_ | refine yx fun _ => ?_)
    refine runL_as 47 (.bool true) rfl (by rw [hk]; congr 1; simp) ?_
    repeat (first | refine yk ?_ | refine yx fun _ => ?_)
    refine ok (alive_ok _ _ (hG.le hM1)) ?_
    rintro _ M4 _ ⟨hM4, rfl, rfl⟩
    repeat (first | refine yk ?_ | refine yx fun _ => ?_)
    exact run_ret hC (rs := [.tmp 6]) rfl (resT rfl resN) (fun _ h => h.drop.drop) ⟨Mem.le_trans hM1 hM4, rfl, rfl⟩
end Go.Proofs.YtladcmfbkiogbaaGreatDoor
namespace Go.Proofs.YtladcmfbkiogbaaGreatDoor
open Go.Chi Go.Lib
set_option maxRecDepth 10000
end Go.Proofs.YtladcmfbkiogbaaGreatDoor
namespace Go.Proofs.YtladcmfbkiogbaaGreatDoor
open Go.Chi Go.Lib
set_option maxRecDepth 10000
end Go.Proofs.YtladcmfbkiogbaaGreatDoor
namespace Go.Proofs.YtladcmfbkiogbaaGreatDoor
open Go.Chi Go.Lib Go.RowKit
theorem uInt : Tryz.prog.underlying 3 = some (.int .i64) := und_ok tok (t := 3) rfl
theorem uBool : Tryz.prog.underlying 4 = some .bool := und_ok tok (t := 4) rfl
theorem uU8 : Tryz.prog.underlying 5 = some (.int .u8) := und_ok tok (t := 5) rfl
theorem uStr : Tryz.prog.underlying 9 = some .string := und_ok tok (t := 9) rfl
section
variable {H : Type} {enc : TypeId × Value → H} {W : World} {cs : List Value}
theorem rd_st (h : RD enc Tryz.prog W 9 cs) : ∃ s : ByteArray, cs = stC s ∧ True := by
  obtain ⟨b, rfl, _⟩ := h.string uStr
  exact ⟨b, rfl, trivial⟩
theorem rd_sstr (h : RD enc Tryz.prog W 22 cs) : ∃ s : SStr, cs = [s.v] ∧ s.Ok (memOf W) ∧ s.len ≤ s.cap := by
  obtain ⟨a, len, cap, ls, rfl, hlc, _, hs, hel⟩ := h.slice (und_ok tok (t := 22) rfl) (size := 1) (by kernel_rfl) (by omega)
  obtain ⟨xs, rfl, _⟩ := list_of (f := stC) (Q := fun _ => True) fun c hc => rd_st (hel c hc)
  exact ⟨⟨a, len, cap, xs⟩, rfl, hs, hlc⟩
theorem varM_of {n : String} {g : Nat} {c : Array Value} (hg : Tryz.prog.globalNamed n = some g) (h : W.var? Tryz.prog n = some c) : VarM (memOf W) g c.toList := by
  unfold World.var? at h
  rw [hg, Option.bind_some] at h
  split at h
  · rename_i c1 t1 f1 he
    cases h
    exact ⟨t1, f1, he⟩
  · cases h
theorem g38_of (h : laidMet Tryz.prog [("math/bits.deBruijn32tab", Rows.laid_math_bits_deBruijn32tab), ("math/bits.deBruijn64tab", Rows.laid_math_bits_deBruijn64tab), ("internal/strconv.uint64pow10", Rows.laid_internal_strconv_uint64pow10), ("strconv.ErrRange", Rows.laid_strconv_ErrRange), ("strconv.ErrSyntax", Rows.laid_strconv_ErrSyntax)] W) : G38 (memOf W) := by
  obtain ⟨ps, ⟨g0, t0, c0, f0, p0, q0, hg0, ht0, hv0, hd0, ⟨g1, t1, c1, f1, p1, q1, hg1, ht1, hv1, hd1, ⟨g2, t2, c2, f2, p2, q2, hg2, ht2, hv2, hd2, ⟨g3, t3, c3, f3, p3, q3, hg3, ht3, hv3, hd3, ⟨g4, t4, c4, f4, p4, q4, hg4, ht4, hv4, hd4, _, _⟩, _⟩, _⟩, _⟩, _⟩, _⟩ := h
  obtain rfl := Option.some.inj (gPow.symm.trans hg2)
  obtain rfl := Option.some.inj (gRng.symm.trans hg3)
  obtain rfl := Option.some.inj (gSyn.symm.trans hg4)
  obtain rfl := Option.some.inj ((show (Tryz.prog.globals[(1 : Nat)]?).map (·.type) = some 213 by kernel_rfl).symm.trans ht2)
  obtain rfl := Option.some.inj ((show (Tryz.prog.globals[(3 : Nat)]?).map (·.type) = some 102 by kernel_rfl).symm.trans ht3)
  obtain rfl := Option.some.inj ((show (Tryz.prog.globals[(2 : Nat)]?).map (·.type) = some 102 by kernel_rfl).symm.trans ht4)
  obtain ⟨ms, hms⟩ := uErr
  obtain ⟨_, u3, v3, e3, _⟩ := iface_of_trod hms hd3
  obtain ⟨_, u4, v4, e4, _⟩ := iface_of_trod hms hd4
  have e2 := cells_of_tab (zs := pow10Tab) (k := .u64) (e := 171) (n := 20) (by kernel_rfl) (by kernel_rfl) (by kernel_rfl) (by kernel_rfl) hd2
  have m2 := varM_of hg2 hv2
  have m3 := varM_of hg3 hv3
  have m4 := varM_of hg4 hv4
  rw [e2] at m2
  rw [e3] at m3
  rw [e4] at m4
  exact ⟨m2, ⟨u4, v4, m4⟩, ⟨u3, v3, m3⟩⟩
end
noncomputable def low38 : Nat := (World.holding Tryz.prog default ⟨#[], #[], []⟩).heap.size
def putC (cs : List Value) : Obj → Obj
  | .cells _ t frozen => .cells ⟨cs⟩ t frozen
  | o => o
noncomputable def laidW (os : Os) : World :=
  let w0 := World.holding Tryz.prog os ⟨#[.cells #[.string ⟨#[118, 97, 108, 117, 101, 32, 111, 117, 116, 32, 111, 102, 32, 114, 97, 110, 103, 101]⟩] 259, .cells #[.string ⟨#[105, 110, 118, 97, 108, 105, 100, 32, 115, 121, 110, 116, 97, 120]⟩] 259], #[], []⟩
  { w0 with heap := ((((w0.heap.modify 4 (putC ([0, 1, 28, 2, 29, 14, 24, 3, 30, 22, 20, 15, 25, 17, 4, 8, 31, 27, 13, 23, 21, 19, 16, 7, 26, 12, 18, 6, 11, 5, 10, 9].map (Value.int .u8)))).modify 5 (putC ([0, 1, 56, 2, 57, 49, 28, 3, 61, 58, 42, 50, 38, 29, 17, 4, 62, 47, 59, 36, 45, 43, 51, 22, 53, 39, 33, 30, 24, 18, 12, 5, 63, 55, 48, 27, 60, 41, 37, 16, 46, 35, 44, 21, 52, 32, 23, 11, 54, 26, 40, 15, 34, 20, 31, 10, 25, 14, 19, 9, 13, 8, 7, 6].map (Value.int .u8)))).modify 1 (putC ([1, 10, 100, 1000, 10000, 100000, 1000000, 10000000, 100000000, 1000000000, 10000000000, 100000000000, 1000000000000, 10000000000000, 100000000000000, 1000000000000000, 10000000000000000, 100000000000000000, 1000000000000000000, 10000000000000000000].map (Value.int .u64)))).modify 3 (putC [.iface 257 (.pointer (some ⟨low38, 0, none⟩))])).modify 2 (putC [.iface 257 (.pointer (some ⟨low38 + 1, 0, none⟩))]) }
theorem laidW_met (os : Os) (args : Array Value) : laidMet Tryz.prog Rows.textLooksRow.laid ((laidW os).forCall (fun _ _ => 0) ⟨#[], args, []⟩).memory :=
  laidMet_of_run' 8 (by kernel_rfl) (by kernel_rfl)
theorem own : ownKnob Tryz.prog.godebug = none := by kernel_rfl
theorem laid : laidOutB Tryz.prog = true := by kernel_rfl
end Go.Proofs.YtladcmfbkiogbaaGreatDoor
namespace Go.Proofs.YtladcmfbkiogbaaGreatDoor
open Go.Chi Go.Lib
section
variable {H : Type} {enc : TypeId × Value → H} {W : World} {cs : List Value}
theorem rd_tx (h : RD enc Tryz.prog W 25 cs) : ∃ t : Tx, cs = txC t := by
  obtain ⟨_, _, rfl, h0, _, _, rfl, h1, _, _, rfl, h2, rfl⟩ := h.struct (und_ok tok (t := 25) rfl) (by kernel_rfl)
  obtain ⟨a, rfl, _⟩ := h0.int uInt
  obtain ⟨b, rfl, _⟩ := h1.int uInt
  obtain ⟨c, rfl, _⟩ := h2.int uInt
  exact ⟨⟨a, b, c⟩, rfl⟩
theorem rd_mb (h : RD enc Tryz.prog W 57 cs) : ∃ m : Mb, cs = mbC m ∧ True := by
  obtain ⟨_, _, rfl, h0, _, _, rfl, h1, rfl⟩ := h.struct (und_ok tok (t := 57) rfl) (by kernel_rfl)
  obtain ⟨a, rfl, _⟩ := h0.int uInt
  obtain ⟨b, rfl, _⟩ := h1.string uStr
  exact ⟨⟨a, b⟩, rfl, trivial⟩
theorem rd_smb (h : RD enc Tryz.prog W 23 cs) : ∃ s : SMb, cs = [s.v] ∧ s.Ok (memOf W) := by
  obtain ⟨a, len, cap, ls, rfl, _, _, hs, hel⟩ := h.slice (und_ok tok (t := 23) rfl) (size := 2) (by kernel_rfl) (by omega)
  obtain ⟨xs, rfl, _⟩ := list_of (f := mbC) (Q := fun _ => True) fun c hc => rd_mb (hel c hc)
  exact ⟨⟨a, len, cap, xs⟩, rfl, hs⟩
theorem rd_in1 (h : RD enc Tryz.prog W 3 cs) : ∃ s : Int, cs = inC s ∧ True := by
  obtain ⟨b, rfl, _⟩ := h.int uInt
  exact ⟨b, rfl, trivial⟩
theorem rd_in (h : RD enc Tryz.prog W 58 cs) : ∃ s : SIn, cs = [s.v] ∧ SlM (memOf W) 1 s.a s.len (s.xs.map inC) := by
  obtain ⟨a, len, cap, ls, rfl, _, _, hs, hel⟩ := h.slice (und_ok tok (t := 58) rfl) (size := 1) (by kernel_rfl) (by omega)
  obtain ⟨xs, rfl, _⟩ := list_of (f := inC) (Q := fun _ => True) fun c hc => rd_in1 (hel c hc)
  exact ⟨⟨a, len, cap, xs⟩, rfl, hs⟩
theorem rd_sr (h : RD enc Tryz.prog W 60 cs) : ∃ y : Sr, cs = srC y ∧ SlM (memOf W) 1 y.list.a y.list.len (y.list.xs.map inC) := by
  obtain ⟨_, _, rfl, h0, _, _, rfl, h1, _, _, rfl, h2, _, _, rfl, h3, _, _, rfl, h4, _, _, rfl, h5, _, _, rfl, h6, rfl⟩ := h.struct (und_ok tok (t := 60) rfl) (by kernel_rfl)
  obtain ⟨d, rfl, _⟩ := h0.int uU8
  obtain ⟨a, rfl, _⟩ := h1.int uInt
  obtain ⟨b, rfl, _⟩ := h2.int uInt
  obtain ⟨c, rfl, _⟩ := h3.int uInt
  obtain ⟨n, rfl, _⟩ := h4.int uInt
  obtain ⟨t, rfl, _⟩ := h5.string uStr
  obtain ⟨l, rfl, hl⟩ := rd_in h6
  exact ⟨⟨d, a, b, c, n, t, l⟩, rfl, hl⟩
theorem rd_ssr (h : RD enc Tryz.prog W 26 cs) : ∃ s : SSr, cs = [s.v] ∧ SlM (memOf W) 7 s.a s.len (s.xs.map srC) ∧ ∀ y ∈ s.xs, SlM (memOf W) 1 y.list.a y.list.len (y.list.xs.map inC) := by
  obtain ⟨a, len, cap, ls, rfl, _, _, hs, hel⟩ := h.slice (und_ok tok (t := 26) rfl) (size := 7) (by kernel_rfl) (by omega)
  obtain ⟨xs, rfl, hq⟩ := list_of (f := srC) (Q := fun y : Sr => SlM (memOf W) 1 y.list.a y.list.len (y.list.xs.map inC)) fun c hc => rd_sr (hel c hc)
  exact ⟨⟨a, len, cap, xs⟩, rfl, hs, hq⟩
theorem rd_ax (h : RD enc Tryz.prog W 28 cs) : ∃ x : Ax, cs = axC x ∧ AxIn (memOf W) x := by
  obtain ⟨_, _, rfl, h0, _, _, rfl, h1, _, _, rfl, h2, _, _, rfl, h3, _, _, rfl, h4, _, _, rfl, h5, _, _, rfl, h6, _, _, rfl, h7, rfl⟩ := h.struct (und_ok tok (t := 28) rfl) (by kernel_rfl)
  obtain ⟨k, rfl, _⟩ := h0.int uU8
  obtain ⟨o, rfl, _⟩ := h1.int uInt
  obtain ⟨au, rfl, _⟩ := h2.int uInt
  obtain ⟨n, rfl, _⟩ := h3.int uInt
  obtain ⟨g, rfl, hg⟩ := rd_smb h4
  obtain ⟨t, rfl⟩ := rd_tx h5
  obtain ⟨y, rfl⟩ := h6.bool uBool
  obtain ⟨s, rfl, hs, hy⟩ := rd_ssr h7
  exact ⟨⟨k, o, au, n, g, t, y, s⟩, rfl, ⟨hg, hs, hy⟩⟩
end
end Go.Proofs.YtladcmfbkiogbaaGreatDoor
