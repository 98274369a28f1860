import Derived.Test.YtladcmfbkiogbaaGreatDoorBUB
import Derived.Lib.DecodeN
import Derived.Deep.WholeRow
import Derived.Test.YtladcmfbkiogbaaGreatDoorBUA
import Derived.Laws.Cover4
set_option linter.all false
namespace Go.Proofs.YtladcmfbkiogbaaGreatDoor
open Go.Chi
set_option maxRecDepth 10000
theorem decode_hi {s : ByteArray} {p : Nat} (h : p < s.size) (hb : ¬ (s[p]'h).toNat < 128) : 128 ≤ (Utf8.decode s p).1 := by
  rw [Go.Lib.decode_at]
  have e : s.get! p = s[p]'h := by
    show s.data[p]! = s.data[p]
    rw [getElem!_pos s.data p (by exact h)]
  rw [← e] at hb
  unfold Go.Lib.decodeN
  repeat' split
  all_goals first | omega | (show 128 ≤ (_ : Nat); omega) | decide
def twL (q : Int → Bool) (l : List UInt8) : List UInt8 := l.takeWhile fun b => q (b.toNat : Int)
theorem while_tw (s : ByteArray) (q : Int → Bool) (hq : ∀ r : Int, q r = true → r < 128) : whileN s q = (twL q s.data.toList).length := by
  have hsz := ba_len s
  have key : ∀ k p, p ≤ s.size → s.size - p ≤ k → whF q (rsF s p) s.size = p + (twL q (s.data.toList.drop p)).length := by
    intro k
    induction k with
    | zero =>
      intro p h1 h2
      rw [rsF_ge (by omega), whF, List.drop_eq_nil_of_le (by omega)]; show s.size = p + 0; omega
    | succ k ih =>
      intro p h1 h2
      by_cases hp : p < s.size
      · have hd : s.data.toList.drop p = (s[p]'hp) :: s.data.toList.drop (p + 1) := List.drop_eq_getElem_cons (by omega)
        rw [rsF_lt hp, whF, hd, twL, List.takeWhile_cons]
        by_cases hb : (s[p]'hp).toNat < 128
        · rw [decode_ascii s p hp hb]
          split
          · rw [List.length_cons, ih (p + 1) (by omega) (by omega), twL]; omega
          · rfl
        · have h3 := decode_hi hp hb
          have e1 : q ((Utf8.decode s p).1 : Int) = false := by
            cases h : q ((Utf8.decode s p).1 : Int) with
            | false => rfl
            | true => have := hq _ h; omega
          have e2 : q ((s[p]'hp).toNat : Int) = false := by
            cases h : q ((s[p]'hp).toNat : Int) with
            | false => rfl
            | true => have := hq _ h; omega
          rw [e1, e2]; rfl
      · rw [rsF_ge hp, whF, List.drop_eq_nil_of_le (by omega)]; show s.size = p + 0; omega
  rw [whileN, key s.size 0 (Nat.zero_le _) (by omega), List.drop_zero, Nat.zero_add]
theorem whF_le (q : Int → Bool) (e : Nat) : ∀ l : List (Nat × Nat), (∀ x ∈ l, x.1 ≤ e) → whF q l e ≤ e
  | [], _ => Nat.le_refl _
  | x :: l, h => by
    rw [whF]; split
    · exact whF_le q e l fun y hy => h y (List.mem_cons_of_mem _ hy)
    · exact h x List.mem_cons_self
theorem rsF_le (s : ByteArray) : ∀ k p, s.size - p ≤ k → ∀ x ∈ rsF s p, x.1 ≤ s.size
  | 0, p, h, x, hx => by rw [rsF_ge (by omega)] at hx; cases hx
  | k + 1, p, h, x, hx => by
    by_cases hp : p < s.size
    · have hw := decode_wide s hp
      rw [rsF_lt hp] at hx
      rcases List.mem_cons.1 hx with rfl | hx
      · exact Nat.le_of_lt hp
      · exact rsF_le s k _ (by omega) x hx
    · rw [rsF_ge hp] at hx; cases hx
theorem while_le (s : ByteArray) (q : Int → Bool) : whileN s q ≤ s.size := whF_le q _ _ (rsF_le s s.size 0 (by omega))
def hexQ (r : Int) : Bool := decide (r < 128) && decide (firstIdx hexT (IntKind.u8.wrap r).toNat.toUInt8 ≥ 0)
theorem hexq_ok (M : Mem) (L : HL) (r : Int) : TrQ Tryz.prog 244 [.int .i32 r] M L (.bool (hexQ r)) := by
  refine Tr.intro 11 Tryz.func244 rfl rfl Tryz.call244 rfl ?_; intro C hC hro
  repeat (first | refine yy ?_ | refine yx fun _ => ?_ | refine gc (indexByte_ok _ _ hexT _) ?_)
  exact run_ret hC (rs := [.tmp 2]) rfl (resT rfl resN) (fun _ h => h) ⟨rfl, rfl, rfl⟩
def atomQ (r : Int) : Bool := (decide (r ≥ 97) && decide (r ≤ 122)) || (decide (r ≥ 48) && decide (r ≤ 57)) || r == 47 || r == 46 || r == 45
theorem atomq_ok (M : Mem) (L : HL) (r : Int) : TrQ Tryz.prog 227 [.int .i32 r] M L (.bool (atomQ r)) := by
  refine Tr.intro 29 Tryz.func227 rfl rfl Tryz.call227 rfl ?_; intro C hC hro
  repeat (first | refine yy ?_ | refine yx fun _ => ?_)
  exact run_ret hC (rs := [.tmp 2]) rfl (resT rfl resN) (fun _ h => h) ⟨rfl, rfl, rfl⟩
def hvN (b : UInt8) : Nat := (firstIdx hexT b).toNat
def unhex : List UInt8 → List UInt8
  | a :: b :: l => (hvN a * 16 + hvN b).toUInt8 :: unhex l
  | _ => []
def isHex (b : UInt8) : Bool := hexQ (b.toNat : Int)
theorem hex_val : ∀ n : Fin 256, isHex n.val.toUInt8 = true → firstIdx hexT n.val.toUInt8 = (hvN n.val.toUInt8 : Int) ∧ hvN n.val.toUInt8 < 16 := by decide +kernel
theorem hexv {b : UInt8} (h : isHex b = true) : firstIdx hexT b = (hvN b : Int) ∧ hvN b < 16 := by
  have := hex_val ⟨b.toNat, b.toNat_lt⟩
  simp only [Nat.toUInt8_eq, UInt8.ofNat_toNat] at this
  exact this h
theorem unhex_len : ∀ l : List UInt8, (unhex l).length = l.length / 2
  | [] => by simp [unhex]
  | [_] => by simp [unhex]
  | _ :: _ :: l => by rw [unhex, List.length_cons, unhex_len l, List.length_cons, List.length_cons]; omega
theorem unhex_at : ∀ (l : List UInt8) (j : Nat) (a b : UInt8), l[2 * j]? = some a → l[2 * j + 1]? = some b → (unhex l)[j]? = some (hvN a * 16 + hvN b).toUInt8
  | [], j, a, b, h, _ => by simp at h
  | [x], 0, a, b, _, h => by simp at h
  | [x], j + 1, a, b, h, _ => by rw [show 2 * (j + 1) = 2 * j + 1 + 1 by omega] at h; simp at h
  | x :: y :: l, 0, a, b, h1, h2 => by simp at h1 h2; rw [unhex, h1, h2]; rfl
  | x :: y :: l, j + 1, a, b, h1, h2 => by
    rw [show 2 * (j + 1) = 2 * j + 1 + 1 by omega] at h1 h2
    simp only [List.getElem?_cons_succ] at h1 h2
    rw [unhex, List.getElem?_cons_succ]
    exact unhex_at l j a b h1 h2
theorem tw_pre (s : ByteArray) (q : Int → Bool) (hq : ∀ r : Int, q r = true → r < 128) : (s.extract 0 (whileN s q)).data.toList = twL q s.data.toList := by
  rw [while_tw s q hq, ba_extract, List.drop_zero]
  exact (List.prefix_iff_eq_take.1 (List.takeWhile_prefix _)).symm
theorem ba_get (s : ByteArray) (j : Nat) : s[j]? = s.data.toList[j]? := by
  by_cases h : j < s.size
  · rw [getElem?_pos s j h, List.getElem?_eq_getElem (by simpa using h)]; rfl
  · rw [getElem?_neg s j h, List.getElem?_eq_none (by simpa using h)]
theorem bytesI_bs (l : List UInt8) : bytesI (l.map fun b => ((b.toNat : Nat) : Int)) = bs l := by
  apply ba_ext
  rw [bytesI_list, List.map_map]
  refine (List.map_congr_left fun b _ => ?_).trans (List.map_id _)
  simp
theorem hexQ_lt (r : Int) (h : hexQ r = true) : r < 128 := by simp only [hexQ, Bool.and_eq_true, decide_eq_true_eq] at h; exact h.1
theorem hex_all (s : ByteArray) : ∀ b ∈ (s.extract 0 (whileN s hexQ)).data.toList, isHex b = true := by
  intro b hb
  rw [tw_pre s hexQ hexQ_lt] at hb
  exact List.all_eq_true.1 (List.all_takeWhile (p := fun b : UInt8 => hexQ (b.toNat : Int))) b hb
theorem hex_sum : ∀ x y : Fin 16, IntKind.u8.wrap (IntKind.i64.wrap (ishl .i64 (x.val : Int) 4 + (y.val : Int))) = (((x.val * 16 + y.val).toUInt8).toNat : Int) := by decide +kernel
theorem bC_snoc (l : List UInt8) (j m : Nat) (b : UInt8) (h : l[j]? = some b) (hj : j < m) : setE (bC (l.take j) ++ List.replicate (m - j) (.int .u8 0)) j [.int .u8 (b.toNat : Int)] = some (bC (l.take (j + 1)) ++ List.replicate (m - (j + 1)) (.int .u8 0)) := by
  have hl := (List.getElem?_eq_some_iff.1 h).1
  have := setE_mid (pre := bC (l.take j)) (x := [.int .u8 0]) (x' := [.int .u8 (b.toNat : Int)]) (post := List.replicate (m - (j + 1)) (.int .u8 0)) (vs := [.int .u8 (b.toNat : Int)]) (j := 0) rfl
  rw [show (bC (l.take j)).length + 0 = j by simp [bC]; omega] at this
  rw [show m - j = (m - (j + 1)) + 1 by omega, List.replicate_succ, List.take_add_one, h, bC, bC, List.map_append, List.append_assoc]
  exact this
def bytesR (s : ByteArray) : Option (ByteArray × ByteArray) :=
  if whileN s hexQ % 2 = 0 then if plainB (bs (unhex (s.extract 0 (whileN s hexQ)).data.toList)) = true then none else some (bs (unhex (s.extract 0 (whileN s hexQ)).data.toList), s.extract (whileN s hexQ) s.size) else none
def rdK (br : Nat) (M : Mem) (L : HL) (o : Option (ByteArray × ByteArray)) (en : Ending) (M' : Mem) (L' : HL) : Prop :=
  M = M' ∧ match o with
    | some x => en = .returned (.string x.1) ∧ L' = rdB br x.2 :: L
    | none => en = .panicked panW ∧ ∃ s', L' = rdB br s' :: L
set_option maxHeartbeats 8000000 in
theorem wbytes_ok (M : Mem) (L : HL) (br : Nat) (s : ByteArray) (hs : s.size < 1000000) : TrE Tryz.prog 230 [pt br] M (rdB br s :: L) (rdK br M L (bytesR s)) := by
  have hw := while_le s hexQ
  refine TrE.intro 52 Tryz.func230 rfl rfl Tryz.call230 rfl ?_; intro C hC hro
  repeat (first | refine yy ?_ | refine yx fun _ => ?_ | refine qc (while_ok _ _ s _ hexQ hexq_ok) ?_)
  refine ec (wcut_ok _ _ br (whileN s hexQ) s) ?_ (by rintro ch _ _ ⟨_, hv⟩; rw [if_pos hw] at hv; cases hv.1)
  rintro v _ _ ⟨rfl, hv⟩
  rw [if_pos hw] at hv
  obtain ⟨hv, rfl⟩ := hv
  cases hv
  have hall := hex_all s
  generalize hN : whileN s hexQ = N at *
  generalize hT : s.extract 0 N = T at *
  have hTz : T.size = N := by rw [← hT, ByteArray.size_extract]; omega
  repeat (first | refine yy ?_ | refine yx fun _ => ?_)
  refine vq ?_ (Qt.as (v' := iv (N % 2)) (qt_rem rfl rfl (fun _ => by decide)) (congrArg (Value.int .i64) (by rw [hTz]; rfl)))
  repeat (first | refine yy ?_ | refine yx fun _ => ?_)
  refine mustR (b := (((N % 2 : Nat) : Int) == 0)) (fun h => ?_) (fun h => ?_)
  rotate_left
  · exact runX_pan hC (fun _ h => h) ⟨rfl, by rw [bytesR, hN, if_neg (by intro e; rw [e] at h; cases h)]; exact ⟨rfl, _, rfl⟩⟩
  have h2 : N % 2 = 0 := by have := eq_of_beq h; omega
  repeat (first | refine yy ?_ | refine yx fun _ => ?_)
  refine vq ?_ (Qt.as (v' := iv (N / 2)) (qt_quo rfl rfl (fun _ => by decide)) (congrArg (Value.int .i64) (by rw [hTz]; exact wrap64_nat (n := N / 2) (by omega))))
  repeat (first | refine yy ?_ | refine yx fun _ => ?_ | (refine runL_op (st_makeSlice (n := N / 2) tok rfl rfl rfl rfl rfl rfl rfl (by omega) (by omega)) rfl rfl rfl ?_; rintro _ _ _ ⟨b4, rfl, rfl, rfl⟩))
  have hul := unhex_len T.data.toList
  have hTl := ba_len T
  generalize hU : unhex T.data.toList = U at *
  generalize hm : N / 2 = m at *
  have hrep : (bC (U.take 0) ++ List.replicate (m - 0) (Value.int .u8 0)) = List.replicate m (.int .u8 0) := by simp [bC]
  rw [← hrep]
  refine run_loopN (fun j σ1 M1 L1 => j ≤ m ∧ M = M1 ∧ L1 = (b4, .cells ⟨bC (U.take j) ++ List.replicate (m - j) (.int .u8 0)⟩ 5 (0, 0)) :: rdB br (s.extract N s.size) :: L ∧ σ1 = [(24, iv j), (23, iv m), (4, .slice (some ⟨b4, 0, none⟩) m m), (3, .string T)]) m [(24, iv 0), (23, iv m), (4, .slice (some ⟨b4, 0, none⟩) m m), (3, .string T)] ?_ ⟨Nat.zero_le _, rfl, rfl, rfl⟩ (fun j _ _ _ h => h.1) ?_
  · exact ⟨rfl, rfl, rfl, rfl, trivial⟩
  rintro j _ _ _ ⟨hj, rfl, rfl, rfl⟩ hnext
  repeat (first | refine yy ?_ | refine yx fun _ => ?_)
  refine run_cond rfl (fun h3 => ?_) (fun h3 => ?_)
  · have hlt : j < m := by simpa using h3
    obtain ⟨a, ha⟩ : ∃ a : UInt8, T.data.toList[2 * j]? = some a := ⟨_, getElem?_pos T.data.toList (2 * j) (by omega)⟩
    obtain ⟨b, hb⟩ : ∃ b : UInt8, T.data.toList[2 * j + 1]? = some b := ⟨_, getElem?_pos T.data.toList (2 * j + 1) (by omega)⟩
    have ha' : T[2 * j]? = some a := (ba_get _ _).trans ha
    have hb' : T[2 * j + 1]? = some b := (ba_get _ _).trans hb
    obtain ⟨va, la⟩ := hexv (hall a (List.mem_of_getElem? ha))
    obtain ⟨vb, lb⟩ := hexv (hall b (List.mem_of_getElem? hb))
    have hu := unhex_at _ j a b ha hb
    rw [hU] at hu
    have hset := bC_snoc U j m _ hu hlt
    have e1 : IntKind.i64.wrap (2 * (j : Int)) = ((2 * j : Nat) : Int) := wrap64_nat (n := 2 * j) (by omega)
    have e2 : IntKind.i64.wrap (IntKind.i64.wrap (2 * (j : Int)) + 1) = ((2 * j + 1 : Nat) : Int) := by rw [e1]; exact wrap64_nat (n := 2 * j + 1) (by omega)
    have ea : ((a.toNat : Nat) : Int).toNat.toUInt8 = a := by simp
    have eb : ((b.toNat : Nat) : Int).toNat.toUInt8 = b := by simp
    have ca := indexByte_ok M ((b4, .cells ⟨bC (U.take j) ++ List.replicate (m - j) (.int .u8 0)⟩ 5 (0, 0)) :: rdB br (s.extract N s.size) :: L) hexT (a.toNat : Int)
    have cb := indexByte_ok M ((b4, .cells ⟨bC (U.take j) ++ List.replicate (m - j) (.int .u8 0)⟩ 5 (0, 0)) :: rdB br (s.extract N s.size) :: L) hexT (b.toNat : Int)
    rw [ea, va] at ca
    rw [eb, vb] at cb
    have e3 := hex_sum ⟨hvN a, la⟩ ⟨hvN b, lb⟩
    repeat (first | refine yy ?_ | refine dd ?_ | refine yd ?_ | refine yx fun _ => ?_ | refine pq rfl (qt_strIndex tok rfl rfl (congrArg (fun z => some (Value.int .i64 z)) e1) (fun _ => ha')) ?_ | refine pq rfl (qt_strIndex tok rfl rfl (congrArg (fun z => some (Value.int .i64 z)) e2) (fun _ => hb')) ?_ | refine pc ca ?_ | refine pc cb ?_ | refine pq rfl (qt_shl rfl rfl (fun _ => by decide)) ?_)
    refine pr_as 42 (.int .u8 (((hvN a * 16 + hvN b).toUInt8).toNat : Int)) rfl (by rw [e3]) ?_
    refine prn_e0 rfl (st_store tok rfl rfl rfl rfl rfl (by (repeat (first | with_reducible apply Upd.here | with_reducible apply Upd.there | with_reducible apply Upd.append_left))) (by rw [Nat.zero_add, Nat.mul_one]; exact hset)) (by decide +kernel) (by
      rintro _ _ _ ⟨rfl, rfl, rfl⟩
      repeat (first | refine yy ?_ | refine dd ?_ | refine yd ?_ | refine yx fun _ => ?_)
      exact run_sub' (hnext _ _ _ ⟨hlt, rfl, rfl, rfl⟩) ⟨lk_succ rfl (by omega), rfl, rfl, rfl, trivial⟩)
  · have hge : j = m := by simp at h3; omega
    subst hge
    have hUl : U.length = j := by omega
    rw [List.take_of_length_le (by omega), Nat.sub_self, List.replicate_zero, List.append_nil]
    have hcs : Cells M ((b4, .cells ⟨bC U⟩ 5 (0, 0)) :: rdB br (s.extract N s.size) :: L) b4 0 ((U.map fun b => ((b.toNat : Nat) : Int)).map (Value.int .u8)) := by
      rw [List.map_map]; exact cellsAll List.mem_cons_self
    repeat (first | refine yy ?_ | refine yx fun _ => ?_ | refine vq ?_ (Qt.as (v' := .string (bs U)) (qt_bytesStr tok (U.map fun b => ((b.toNat : Nat) : Int)) rfl rfl rfl rfl hcs (by simpa using hUl)) (by rw [bytesI_bs])) | refine qc (plain_ok _ _ (bs U)) ?_)
    refine mustR (b := !plainB (bs U)) (fun h4 => ?_) (fun h4 => ?_)
    rotate_left
    · refine runX_pan hC (fun _ h => h.drop) ⟨rfl, ?_⟩
      rw [bytesR, hN, if_pos h2, hT, hU, if_pos (by simpa using h4)]; exact ⟨rfl, _, rfl⟩
    repeat (first | refine yy ?_ | refine yx fun _ => ?_ | refine vq ?_ (Qt.as (v' := .string (bs U)) (qt_bytesStr tok (U.map fun b => ((b.toNat : Nat) : Int)) rfl rfl rfl rfl hcs (by simpa using hUl)) (by rw [bytesI_bs])))
    refine run_retX hro ?_
    refine runX_ret hC (rs := [.tmp 2]) rfl (resT rfl resN) (fun _ h => h.drop) ⟨rfl, ?_⟩
    rw [bytesR, hN, if_pos h2, hT, hU, if_neg (by simpa using h4)]; exact ⟨rfl, rfl⟩
end Go.Proofs.YtladcmfbkiogbaaGreatDoor
namespace Go.Proofs.YtladcmfbkiogbaaGreatDoor
open Go.Chi Go.Lib
theorem decode_run {s : ByteArray} {p : Nat} (h : p < s.size) (hb : ¬ (s[p]'h).toNat < 128) : ∀ i, i < (Utf8.decode s p).2 → p + i < s.size ∧ 128 ≤ (s.get! (p + i)).toNat := by
  have e : s.get! p = s[p]'h := by
    show s.data[p]! = s.data[p]
    rw [getElem!_pos s.data p (by exact h)]
  rw [← e] at hb
  rw [Go.Lib.decode_at]
  generalize e0 : (s.get! p).toNat = b0 at *
  generalize e1 : (s.get! (p + 1)).toNat = b1 at *
  generalize e2 : (s.get! (p + 2)).toNat = b2 at *
  generalize e3 : (s.get! (p + 3)).toNat = b3 at *
  have k0 : p + 0 < s.size ∧ 128 ≤ (s.get! (p + 0)).toNat := ⟨h, by rw [Nat.add_zero, e0]; omega⟩
  unfold Go.Lib.decodeN
  repeat' split
  all_goals
    intro i hi
    dsimp only at hi
    have hi4 : i = 0 ∨ i = 1 ∨ i = 2 ∨ i = 3 := by omega
    rcases hi4 with rfl | rfl | rfl | rfl
    · exact k0
    · refine ⟨?_, ?_⟩ <;> first | omega | (rw [e1]; omega)
    · refine ⟨?_, ?_⟩ <;> first | omega | (rw [e2]; omega)
    · refine ⟨?_, ?_⟩ <;> first | omega | (rw [e3]; omega)
theorem tw_skip {f : UInt8 → Bool} : ∀ (w : Nat) (l : List UInt8), (∀ i, i < w → ∃ b, l[i]? = some b ∧ f b = true) → (l.takeWhile f).length = w + ((l.drop w).takeWhile f).length
  | 0, l, _ => by simp
  | w + 1, [], h => by obtain ⟨b, hb, _⟩ := h 0 (by omega); simp at hb
  | w + 1, x :: l, h => by
    obtain ⟨b, hb, hf⟩ := h 0 (by omega)
    simp only [List.getElem?_cons_zero, Option.some.injEq] at hb
    subst hb
    rw [List.takeWhile_cons, if_pos hf, List.length_cons, List.drop_succ_cons, tw_skip w l fun i hi => by have := h (i + 1) (by omega); simpa using this]
    omega
theorem while_no (s : ByteArray) (q : Int → Bool) (hq : ∀ r : Int, 128 ≤ r → q r = true) : whileN s q = (twL q s.data.toList).length := by
  have hsz := ba_len s
  have key : ∀ k p, p ≤ s.size → s.size - p ≤ k → whF q (rsF s p) s.size = p + (twL q (s.data.toList.drop p)).length := by
    intro k
    induction k with
    | zero =>
      intro p h1 h2
      rw [rsF_ge (by omega), whF, List.drop_eq_nil_of_le (by omega)]; show s.size = p + 0; omega
    | succ k ih =>
      intro p h1 h2
      by_cases hp : p < s.size
      · have hw := decode_wide s hp
        by_cases hb : (s[p]'hp).toNat < 128
        · have hd : s.data.toList.drop p = (s[p]'hp) :: s.data.toList.drop (p + 1) := List.drop_eq_getElem_cons (by omega)
          rw [rsF_lt hp, whF, hd, twL, List.takeWhile_cons, decode_ascii s p hp hb]
          split
          · rw [List.length_cons, ih (p + 1) (by omega) (by omega), twL]; omega
          · rfl
        · have h3 := decode_hi hp hb
          have hr := decode_run hp hb
          have hle : p + (Utf8.decode s p).2 ≤ s.size := by have := (hr ((Utf8.decode s p).2 - 1) (by omega)).1; omega
          rw [rsF_lt hp, whF, if_pos (hq _ (by omega)), ih _ hle (by omega), twL, twL, tw_skip (Utf8.decode s p).2 (s.data.toList.drop p), List.drop_drop]
          · omega
          · intro i hi
            obtain ⟨h4, h5⟩ := hr i hi
            refine ⟨s[p + i]'h4, ?_, hq _ ?_⟩
            · rw [List.getElem?_drop, List.getElem?_eq_getElem (by omega)]; rfl
            · have e : s.get! (p + i) = s[p + i]'h4 := by
                show s.data[p + i]! = s.data[p + i]
                rw [getElem!_pos s.data (p + i) (by exact h4)]
              rw [e] at h5
              exact_mod_cast h5
      · rw [rsF_ge hp, whF, List.drop_eq_nil_of_le (by omega)]; show s.size = p + 0; omega
  rw [whileN, key s.size 0 (Nat.zero_le _) (by omega), List.drop_zero, Nat.zero_add]
theorem any_tw (z : List UInt8) : ∀ l : List UInt8, indexAny l z = if (l.takeWhile fun b => !z.contains b).length < l.length then ((l.takeWhile fun b => !z.contains b).length : Int) else -1
  | [] => rfl
  | b :: l => by
    rw [indexAny, List.takeWhile_cons]
    by_cases h : z.contains b = true
    · rw [if_pos h, h]; rfl
    · have h0 : z.contains b = false := by simpa using h
      rw [if_neg h, h0, any_tw z l]
      simp only [Bool.not_false, if_true, List.length_cons]
      generalize (l.takeWhile fun b => !z.contains b).length = n
      by_cases h2 : n < l.length
      · have h3 : n + 1 < l.length + 1 := by omega
        have h4 : ((n : Int) == -1) = false := by rw [beq_eq_false_iff_ne]; omega
        simp [h2, h4]
      · have h3 : ¬ n + 1 < l.length + 1 := by omega
        simp [h2]
end Go.Proofs.YtladcmfbkiogbaaGreatDoor
namespace Go.Proofs.YtladcmfbkiogbaaGreatDoor
open Go.Chi Go.Lib Go.RowKit
theorem asciiSet_ok (M : Mem) (L : HL) (n : Int) : TrQ Tryz.prog 160 [.int .i64 n] M L (.bool (decide (n > 8))) := by
  refine Tr.intro 5 Tryz.func160 rfl rfl Tryz.call160 rfl ?_; intro C hC hro
  repeat (first | refine yy ?_ | refine yx fun _ => ?_)
  exact run_ret hC (rs := [.tmp 2]) rfl (resT rfl resN) (fun _ h => h) ⟨rfl, rfl, rfl⟩
def noQ (z : ByteArray) (r : Int) : Bool := !decide (runeIxG z r ≥ 0)
structure Signs (z : ByteArray) : Prop where
  lt : ∀ b ∈ z.data.toList, b.toNat < 128
  ix : ∀ b : UInt8, decide (firstIdx z b ≥ 0) = z.data.toList.contains b
theorem noQ_b {z : ByteArray} (h : Signs z) (b : UInt8) : noQ z (b.toNat : Int) = !z.data.toList.contains b := by
  unfold noQ runeIxG
  by_cases hb : b.toNat < 128
  · rw [if_pos ⟨by omega, by omega⟩]
    have e : (IntKind.u8.wrap (b.toNat : Int)).toNat.toUInt8 = b := by
      rw [show IntKind.u8.wrap (b.toNat : Int) = (b.toNat : Int) from u8_mod b.toNat |>.trans (by rw [Nat.mod_eq_of_lt b.toNat_lt])]
      simp
    rw [e, h.ix b]
  · rw [if_neg (by omega)]
    have : z.data.toList.contains b = false := by
      cases hc : z.data.toList.contains b with
      | false => rfl
      | true => have := h.lt b (by simpa using hc); omega
    rw [this]; rfl
theorem indexAny_whF {s z : ByteArray} (h : Signs z) : indexAny s.data.toList z.data.toList = if whileN s (noQ z) < s.size then (whileN s (noQ z) : Int) else -1 := by
  have e : twL (noQ z) s.data.toList = s.data.toList.takeWhile fun b => !z.data.toList.contains b := by
    rw [twL, show (fun b : UInt8 => noQ z (b.toNat : Int)) = (fun b => !z.data.toList.contains b) from funext (noQ_b h)]
  have h2 := while_no s (noQ z) (fun r hr => by unfold noQ runeIxG; rw [if_neg (by omega)]; rfl)
  rw [any_tw, ← e, ← h2, ba_len]
attribute [local irreducible] runeIxG
set_option maxHeartbeats 4000000 in
theorem indexAny_short (M : Mem) (L : HL) (s z : ByteArray) (h2 : 2 ≤ z.size) (h8 : s.size ≤ 8) (h : Signs z) : TrQ Tryz.prog 128 [.string s, .string z] M L (.int .i64 (indexAny s.data.toList z.data.toList)) := by
  rw [indexAny_whF h]
  refine Tr.intro 55 Tryz.func128 rfl rfl Tryz.call128 rfl ?_; intro C hC hro
  repeat (first | refine yy ?_ | refine yx fun _ => ?_)
  refine run_cond (t := z.toList == (⟨#[]⟩ : ByteArray).toList) rfl (fun h1 => ?_) (fun _ => ?_)
  · rw [bytes_beq] at h1
    have := of_decide_eq_true h1
    rw [this] at h2; exact absurd h2 (by decide)
  repeat (first | refine yy ?_ | refine yx fun _ => ?_)
  refine run_cond rfl (fun h1 => by simp at h1; omega) (fun _ => ?_)
  repeat (first | refine yy ?_ | refine yx fun _ => ?_ | refine qc (asciiSet_ok _ _ _) ?_)
  refine run_cond rfl (fun h1 => by have := of_decide_eq_true h1; omega) (fun _ => ?_)
  repeat (first | refine yy ?_ | refine yx fun _ => ?_ | (refine runL_op (st_rangeS tok rfl rfl) rfl rfl rfl ?_; rintro _ _ _ ⟨b, rfl, rfl, rfl⟩))
  refine run_loopN (fun i σ1 M1 L1 => i ≤ s.size ∧ ∃ p, i ≤ p ∧ whF (noQ z) (rsF s p) s.size = whileN s (noQ z) ∧ σ1 = [(45, pt b), (0, .string s), (1, .string z)] ∧ M = M1 ∧ L1 = (b, .stringIter s p) :: L) s.size [(45, pt b), (0, .string s), (1, .string z)] ?_ ⟨Nat.zero_le _, 0, Nat.le_refl _, rfl, rfl, rfl, rfl⟩ (fun j _ _ _ h => h.1) ?_
  · exact ⟨rfl, rfl, rfl, trivial⟩
  rintro i _ _ _ ⟨hi, p, hip, hn, rfl, rfl, rfl⟩ hnext
  by_cases hlt : p < s.size
  · have hwd := decode_wide s hlt
    rw [rsF_lt hlt, whF] at hn
    repeat (first | refine yy ?_ | refine yx fun _ => ?_ | (refine runL_op (st_nextS rfl (by (repeat (first | with_reducible apply Upd.here | with_reducible apply Upd.there | with_reducible apply Upd.append_left))) hlt) rfl rfl rfl ?_; rintro _ _ _ ⟨rfl, rfl, rfl⟩) | refine run_cond (t := true) rfl (fun _ => ?_) (fun h => by cases h) | refine qc (indexRuneG_ok _ _ z _ h.lt) ?_)
    refine run_cond (t := decide (runeIxG z ((Utf8.decode s p).1 : Int) ≥ 0)) rfl (fun h3 => ?_) (fun h3 => ?_)
    · rw [if_neg (by rw [noQ, h3]; decide)] at hn
      repeat (first | refine yy ?_ | refine yx fun _ => ?_)
      exact run_ret hC (rs := [.tmp 4]) rfl (resT rfl resN) (fun _ h => h.drop) ⟨by rw [← hn, if_pos hlt]; rfl, rfl, rfl⟩
    · rw [if_pos (by rw [noQ, h3]; decide)] at hn
      repeat (first | refine yy ?_ | refine yx fun _ => ?_)
      exact run_sub' (hnext _ _ _ ⟨by omega, _, by omega, hn, rfl, rfl, rfl⟩) ⟨rfl, rfl, rfl, trivial⟩
  · rw [rsF_ge hlt, whF] at hn
    repeat (first | refine yy ?_ | refine yx fun _ => ?_ | refine runL_q (qt_nextEnd rfl (by (repeat (first | with_reducible apply List.mem_cons_self | with_reducible assumption | with_reducible apply List.mem_cons_of_mem | with_reducible apply List.mem_append_right))) hlt) rfl rfl rfl ?_ | refine run_cond (t := false) rfl (fun h => by cases h) (fun _ => ?_))
    exact run_ret hC (rs := [.tmp 4]) rfl (resT rfl resN) (fun _ h => h.drop) ⟨by rw [← hn, if_neg (Nat.lt_irrefl _)]; rfl, rfl, rfl⟩
theorem indexAny_ok (M : Mem) (L : HL) (s z : ByteArray) (hs : s.size < 1000000) (h1 : 1 ≤ z.size) (h100 : z.size < 100) (h : Signs z) : TrQ Tryz.prog 128 [.string s, .string z] M L (.int .i64 (indexAny s.data.toList z.data.toList)) := by
  have hac : ∀ (j : Nat) b, z.data.toList[j]? = some b → b.toNat < 128 := fun j b hb => h.lt b (List.mem_of_getElem? hb)
  by_cases hz1 : z.size = 1
  · exact trQ_calls (fun w => Tryz.call128 _ w) fun w _ => by
      refine (Tryz.strings_IndexAny_one s z w hz1 hac).mono fun e w' => ?_
      rintro ⟨rfl, rfl⟩
      exact ⟨rfl, Below.refl _ _⟩
  by_cases h8 : s.size ≤ 8
  · exact indexAny_short M L s z (by omega) h8 h
  · exact trQ_calls (fun w => Tryz.call128 _ w) fun w _ => by
      refine (Tryz.strings_IndexAny_long (zero_of_info (n := 256) (by kernel_rfl)).1 s z w (by omega) (by omega) (by omega) (by omega) hac).mono fun e w' => ?_
      rintro ⟨rfl, rfl⟩
      exact ⟨rfl, ((Below.refl _ _).alloc (Nat.le_refl _) _).alloc (by simp) _⟩
end Go.Proofs.YtladcmfbkiogbaaGreatDoor
namespace Go.Proofs.YtladcmfbkiogbaaGreatDoor
open Go.Chi Go.Lib
def ixN (x : ByteArray) (l : List ByteArray) : Nat := (l.takeWhile fun y => decide (x ≠ y)).length
def ixI (x : ByteArray) (l : List ByteArray) : Int := if ixN x l < l.length then (ixN x l : Int) else -1
set_option maxHeartbeats 4000000 in
theorem sliceIndex_ok (M : Mem) (L : HL) (s : SStr) (h : StOk M s) (x : ByteArray) : TrQ Tryz.prog 127 [s.v, .string x] M L (.int .i64 (ixI x s.xs)) := by
  have hlen := h.len
  have h6 := h.2
  have h0 := h.1
  simp only [SStr.Ok] at h0
  obtain ⟨a, n, c, xs⟩ := s
  simp only [SStr.v] at *
  replace h0 : SlM M 1 a n (xs.map stC) := h0
  refine Tr.intro 19 Tryz.func127 rfl rfl Tryz.call127 rfl ?_; intro C hC hro
  repeat (first | refine yy ?_ | refine yx fun _ => ?_)
  refine run_loopN (fun j σ1 M1 L1 => j ≤ n ∧ M = M1 ∧ L = L1 ∧ ixN x xs = j + ixN x (xs.drop j) ∧ σ1 = [(8, iv j), (7, iv n), (0, .slice a n c), (1, .string x)]) n [(8, iv 0), (7, iv n), (0, .slice a n c), (1, .string x)] ?_ ⟨Nat.zero_le _, rfl, rfl, by rw [List.drop_zero, Nat.zero_add], rfl⟩ (fun j _ _ _ h => h.1) ?_
  · exact ⟨rfl, rfl, rfl, rfl, trivial⟩
  rintro j _ _ _ ⟨hj, rfl, rfl, hix, rfl⟩ hnext
  repeat (first | refine yy ?_ | refine yx fun _ => ?_)
  refine run_cond rfl (fun h1 => ?_) (fun h1 => ?_)
  · have hlt : j < n := by simpa using h1
    obtain ⟨b, off, y, rfl, hy, hc⟩ := SStr.at_ h0 hlt
    have hdr : xs.drop j = y :: xs.drop (j + 1) := by
      obtain ⟨hl, he⟩ := List.getElem?_eq_some_iff.1 hy
      rw [← he]; exact (List.getElem_cons_drop (h := hl)).symm
    have hcons : ixN x (y :: xs.drop (j + 1)) = if x = y then 0 else ixN x (xs.drop (j + 1)) + 1 := by
      rw [ixN, List.takeWhile_cons]
      by_cases e : x = y
      · rw [if_neg (by simp [e]), if_pos e]; rfl
      · rw [if_pos (by simp [e]), if_neg e]; rfl
    rw [hdr, hcons] at hix
    repeat (first | refine yy ?_ | refine yx fun _ => ?_)
    refine run_cond (t := x.toList == y.toList) rfl (fun h2 => ?_) (fun h2 => ?_)
    · rw [bytes_beq] at h2
      have h3 : x = y := of_decide_eq_true h2
      rw [if_pos h3] at hix
      have h4 : ixI x xs = (j : Int) := by rw [ixI, hix, if_pos (by omega)]; simp
      repeat (first | refine yy ?_ | refine yx fun _ => ?_)
      exact run_ret hC (rs := [.tmp 4]) rfl (resT rfl resN) (fun _ h => h) ⟨by rw [h4]; rfl, rfl, rfl⟩
    · rw [bytes_beq] at h2
      have h3 : x ≠ y := of_decide_eq_false h2
      rw [if_neg h3] at hix
      repeat (first | refine yy ?_ | refine yx fun _ => ?_)
      exact run_sub' (hnext _ _ _ ⟨hlt, rfl, rfl, by omega, rfl⟩) ⟨lk_succ rfl (by omega), rfl, rfl, rfl, trivial⟩
  · have hge : j = n := by simp at h1; omega
    subst hge
    rw [List.drop_eq_nil_of_le (by omega)] at hix
    have h4 : ixI x xs = -1 := by rw [ixI, hix, if_neg (by show ¬ j + 0 < _; omega)]
    repeat (first | refine yy ?_ | refine yx fun _ => ?_)
    exact run_ret hC (rs := [.tmp 4]) rfl (resT rfl resN) (fun _ h => h) ⟨by rw [h4]; rfl, rfl, rfl⟩
end Go.Proofs.YtladcmfbkiogbaaGreatDoor
namespace Go.Proofs.YtladcmfbkiogbaaGreatDoor
open Go.Chi
set_option maxRecDepth 10000
theorem TrE.permK {P : Program} {f : FuncId} {args : List Value} {M : Mem} {L L1 : HL} {K K1 : Ending → Mem → HL → Prop} (h : TrE P f args M L1 K1) (hp : L.Perm L1) (hk : ∀ e M' L1', K1 e M' L1' → ∃ L', L1'.Perm L' ∧ K e M' L') : TrE P f args M L K :=
  ⟨h.1, fun w hw cs => by
    obtain ⟨e, w', fr, ⟨M', L', hp', hK⟩, h1⟩ := h.2 w (hw.perm hp) cs
    obtain ⟨L2, h2, h3⟩ := hk e M' L' hK
    exact ⟨e, w', fr, ⟨M', L2, hp'.perm h2, h3⟩, h1⟩⟩
theorem OS.toM {M : Mem} {e size n c : Nat} {a : Option Addr} {ls : List (List Value)} {N : HL} (h : OS e size (.slice a n c) n ls.flatten N) (hsz : ∀ l ∈ ls, l.length = size) (hl : ls.length = n) (hb : ∀ p ∈ N, M.blk p.1 = some p.2) : SlM M size a n ls := by
  rcases h with ⟨hv, rfl, hx, rfl⟩ | ⟨b, cap, cs, hv, rfl, hle, hcl, hxs⟩
  · cases hv
    exact ⟨hl, hsz, .inl (List.length_eq_zero_iff.1 hl)⟩
  · cases hv
    have hb := hb _ List.mem_cons_self
    refine ⟨hl, hsz, .inr ⟨b, 0, rfl, fun i c hc => ⟨⟨cs⟩, e, (0, 0), .inr hb, fun j v hv => ?_⟩⟩⟩
    have := flat_at hsz hc hv
    rw [← hxs] at this
    rw [List.getElem?_take] at this
    split at this
    · simpa using this
    · cases this
abbrev RT : Type := ByteArray → Option (ByteArray × ByteArray)
def cons1 (t : ByteArray) : Option (List ByteArray × ByteArray) → Option (List ByteArray × ByteArray)
  | some x => some (t :: x.1, x.2)
  | none => none
def pP (T : RT) (e : ByteArray) : Nat → Bool → ByteArray → Option (List ByteArray × ByteArray)
  | 0, _, s => if preB s e = true then some ([], nextR s e) else none
  | k + 1, first, s => if preB s e = true then some ([], nextR s e) else
    if first = true then (T s).bind fun x => cons1 x.1 (pP T e k false x.2)
    else if preB s sepB = true then (T (nextR s sepB)).bind fun x => cons1 x.1 (pP T e k false x.2) else none
theorem pP_end {T : RT} {e : ByteArray} {s : ByteArray} (h : preB s e = true) : ∀ k b, pP T e k b s = some ([], nextR s e)
  | 0, _ => by rw [pP, if_pos h]
  | k + 1, _ => by rw [pP, if_pos h]
def tmK (br : Nat) (M : Mem) (L : HL) (o : Option (ByteArray × ByteArray)) (en : Ending) (M' : Mem) (L' : HL) : Prop :=
  M.le M' ∧ match o with
    | some x => en = .returned (.string x.1) ∧ L' = rdB br x.2 :: L
    | none => en = .panicked panW ∧ ∃ s', L' = rdB br s' :: L
def ptK (br : Nat) (M : Mem) (L : HL) (o : Option (List ByteArray × ByteArray)) (en : Ending) (M' : Mem) (L' : HL) : Prop :=
  M.le M' ∧ match o with
    | some x => ∃ S : SStr, StOk M' S ∧ S.xs = x.1 ∧ en = .returned S.v ∧ L' = rdB br x.2 :: L
    | none => en = .panicked panW ∧ ∃ s', L' = rdB br s' :: L
def preO (xs : List ByteArray) (o : Option (List ByteArray × ByteArray)) : Option (List ByteArray × ByteArray) := o.map fun x => (xs ++ x.1, x.2)
theorem preO_cons (xs : List ByteArray) (t : ByteArray) (o : Option (List ByteArray × ByteArray)) : preO xs (cons1 t o) = preO (xs ++ [t]) o := by
  cases o with
  | none => rfl
  | some x => simp [preO, cons1]
theorem next_le (s p : ByteArray) : (nextR s p).size ≤ s.size := by
  unfold nextR
  split
  · rw [ByteArray.size_extract]; omega
  · exact Nat.le_refl _
theorem wnextN_ok (M : Mem) (N L : HL) (br : Nat) (s p : ByteArray) : Tr Tryz.prog 224 [pt br, .string p] M (N ++ rdB br s :: L) (fun v M' L' => M = M' ∧ v = .bool (preB s p) ∧ L' = N ++ rdB br (nextR s p) :: L) :=
  Tr.perm (wnext_ok M (N ++ L) br s p) List.perm_middle (by rintro _ _ _ ⟨rfl, rfl, rfl⟩; exact ⟨_, List.perm_middle.symm, rfl, rfl, rfl⟩)
theorem termN_ok {M : Mem} {N L : HL} {br : Nat} {s : ByteArray} {dp : Int} {T : RT} (h : TrE Tryz.prog 200 [pt br, .int .i64 dp] M (rdB br s :: (N ++ L)) (tmK br M (N ++ L) (T s))) : TrE Tryz.prog 200 [pt br, .int .i64 dp] M (N ++ rdB br s :: L) (fun en M' L' => M.le M' ∧ ((∃ x, T s = some x ∧ en = .returned (.string x.1) ∧ L' = N ++ rdB br x.2 :: L) ∨ (T s = none ∧ en = .panicked panW ∧ ∃ s', L' = N ++ rdB br s' :: L))) :=
  TrE.permK h List.perm_middle (by
    rintro en M' L' ⟨h1, h2⟩
    split at h2
    · rename_i x hx
      obtain ⟨rfl, rfl⟩ := h2
      exact ⟨_, List.perm_middle.symm, h1, .inl ⟨x, hx, rfl, rfl⟩⟩
    · rename_i hx
      obtain ⟨rfl, s', rfl⟩ := h2
      exact ⟨_, List.perm_middle.symm, h1, .inr ⟨hx, rfl, s', rfl⟩⟩)
set_option maxHeartbeats 8000000 in
theorem wparts_ok (M : Mem) (L : HL) (br : Nat) (e s : ByteArray) (dp : Int) (T : RT) (hs : s.size < 1000000) (hT : ∀ M L s, s.size < 1000000 → TrE Tryz.prog 200 [pt br, .int .i64 dp] M (rdB br s :: L) (tmK br M L (T s))) (hr : ∀ s x, T s = some x → x.2.size ≤ s.size) :
    TrE Tryz.prog 233 [pt br, .string e, .int .i64 dp] M (rdB br s :: L) (ptK br M L (pP T e 32 true s)) := by
  obtain ⟨R, hR⟩ : ∃ R, pP T e 32 true s = R := ⟨_, rfl⟩
  rw [hR]
  refine TrE.intro 31 Tryz.func233 rfl rfl Tryz.call233 rfl ?_; intro C hC hro
  repeat (first | refine yy ?_ | refine yx fun _ => ?_)
  refine run_loopN (fun j σ1 M1 L1 => j ≤ 32 ∧ M.le M1 ∧ ∃ a c N xs s1, xs.length = j ∧ L1 = N ++ rdB br s1 :: L ∧ OS 9 1 (.slice a j c) j (xs.map Value.string) N ∧ s1.size < 1000000 ∧ R = preO xs (pP T e (32 - j) (decide (j = 0)) s1) ∧ σ1 = [(6, .slice a j c), (0, pt br), (1, .string e), (2, .int .i64 dp)]) 32 [(6, .slice none 0 0), (0, pt br), (1, .string e), (2, .int .i64 dp)] ?_ ⟨Nat.zero_le _, Mem.le_refl _, none, 0, [], [], s, rfl, rfl, .inl ⟨rfl, rfl, rfl, rfl⟩, hs, by show R = preO [] (pP T e 32 true s); rw [hR]; cases R <;> rfl, rfl⟩ (fun j _ _ _ h => h.1) ?_
  · exact ⟨rfl, rfl, rfl, rfl, trivial⟩
  rintro j _ M1 _ ⟨hj, hM, a, c, N, xs, s1, hxs, rfl, hO, hs1, hP, rfl⟩ hnext
  repeat (first | refine zc ?_ | refine vq ?_)
  refine oc (wnextN_ok _ N L br s1 e) ?_
  rintro _ M2 _ ⟨hM2, rfl, rfl⟩
  subst hM2
  repeat (first | refine zc ?_ | refine vq ?_)
  refine run_cond (t := !preB s1 e) rfl (fun h1 => ?_) (fun h1 => ?_)
  rotate_left
  · have h0 : preB s1 e = true := by simpa using h1
    rw [pP_end h0] at hP
    repeat (first | refine yy ?_ | refine yx fun _ => ?_)
    refine run_frzL N fun M' hM' hb => ?_
    refine run_retX hro ?_
    refine runX_ret hC (rs := [.tmp 6]) rfl (resT rfl resN) (fun _ h => h) ⟨Mem.le_trans hM hM', ?_⟩
    rw [hP]
    rw [strs_flat] at hO
    exact ⟨⟨a, j, c, xs⟩, ⟨OS.toM hO (fun l hl => by obtain ⟨x, _, rfl⟩ := List.mem_map.1 hl; rfl) (by simpa using hxs) hb, by show j < _; omega⟩, (List.append_nil _).symm, rfl, rfl⟩
  have h0 : preB s1 e = false := by simpa using h1
  have en : nextR s1 e = s1 := by rw [nextR, if_neg (by rw [h0]; decide)]
  rw [en]
  repeat (first | refine zc ?_ | refine vq ?_)
  by_cases h32 : j = 32
  · subst h32
    refine runL_as 14 (.bool false) rfl (by rfl) ?_
    repeat (first | refine yy ?_ | refine yx fun _ => ?_ | refine vg ?_ (hst := qt_dead (s := 14) (b := true) (b' := false) (v := .bool false) rfl (by simp) (by decide)))
    refine mustR (b := false) (fun h => by cases h) (fun _ => ?_)
    refine runX_pan hC (fun _ h => h.dropAll) ⟨hM, ?_⟩
    rw [hP, show 32 - 32 = 0 by omega, pP, if_neg (by rw [h0]; decide)]
    exact ⟨rfl, s1, rfl⟩
  rw [show 32 - j = (31 - j) + 1 by omega, pP, if_neg (by rw [h0]; decide)] at hP
  refine runL_as 14 (.bool true) rfl (by congr 1; exact decide_eq_true (by omega)) ?_
  iterate 4 refine vk ?_
  by_cases hj0 : j = 0
  · rw [if_pos (by simpa using hj0)] at hP
    refine runL_as 18 (.bool true) rfl (by subst hj0; rfl) ?_
    repeat (first | refine yk ?_ | refine yx fun _ => ?_)
    refine mustR (b := true) (fun _ => ?_) (fun h => by cases h)
    repeat (first | refine yk ?_ | refine yx fun _ => ?_)
    refine ec (termN_ok (hT _ _ s1 hs1)) ?_ ?_
    · rintro _ M3 _ ⟨hM3, ⟨x, hx, hv, rfl⟩ | ⟨_, hv, _⟩⟩
      rotate_left
      · cases hv
      cases hv
      rw [hx] at hP
      repeat (first | refine yy ?_ | refine yx fun _ => ?_)
      (refine runL_op (st_app1 (news := [.string x.1]) tok rfl rfl rfl rfl rfl rfl rfl rfl hO rfl (by simp [Value.oneCell']) (by omega) (by omega)) rfl rfl rfl ?_; rintro _ _ _ ⟨rfl, N', a', c', rfl, rfl, hO'⟩)
      repeat (first | refine yy ?_ | refine yx fun _ => ?_)
      refine run_sub' (hnext _ _ _ ⟨by omega, Mem.le_trans hM hM3, a', c', N', xs ++ [x.1], x.2, by rw [List.length_append, hxs]; rfl, rfl, by rw [List.map_append]; exact hO', by have := hr _ _ hx; omega, by rw [hP]; show preO xs (cons1 _ _) = _; rw [preO_cons, show 32 - (j + 1) = 31 - j by omega]; rfl, rfl⟩) ⟨rfl, rfl, rfl, rfl, trivial⟩
    · rintro _ M3 _ ⟨hM3, ⟨x, hx, hv, _⟩ | ⟨hx, hv, s', rfl⟩⟩
      · cases hv
      cases hv
      rw [hx] at hP
      exact runX_pan hC (fun _ h => h.dropAll) ⟨Mem.le_trans hM hM3, by rw [hP]; exact ⟨rfl, s', rfl⟩⟩

  · rw [if_neg (by simpa using hj0)] at hP
    refine runL_as 18 (.bool false) rfl (by congr 1; simp; omega) ?_
    refine vk ?_
    refine ok (wnextN_ok _ N L br s1 sepB) ?_
    rintro _ M2 _ ⟨hM2, rfl, rfl⟩
    subst hM2
    repeat (first | refine yk ?_ | refine yx fun _ => ?_)
    refine mustR (b := preB s1 sepB) (fun h2 => ?_) (fun h2 => ?_)
    rotate_left
    · rw [h2] at hP
      exact runX_pan hC (fun _ h => h.dropAll) ⟨hM, by rw [hP]; exact ⟨rfl, _, rfl⟩⟩
    rw [if_pos h2] at hP
    have hs2 := next_le s1 sepB
    repeat (first | refine yk ?_ | refine yx fun _ => ?_)
    refine ec (termN_ok (hT _ _ (nextR s1 sepB) (by omega))) ?_ ?_
    · rintro _ M3 _ ⟨hM3, ⟨x, hx, hv, rfl⟩ | ⟨_, hv, _⟩⟩
      rotate_left
      · cases hv
      cases hv
      rw [hx] at hP
      repeat (first | refine yy ?_ | refine yx fun _ => ?_)
      (refine runL_op (st_app1 (news := [.string x.1]) tok rfl rfl rfl rfl rfl rfl rfl rfl hO rfl (by simp [Value.oneCell']) (by omega) (by omega)) rfl rfl rfl ?_; rintro _ _ _ ⟨rfl, N', a', c', rfl, rfl, hO'⟩)
      repeat (first | refine yy ?_ | refine yx fun _ => ?_)
      refine run_sub' (hnext _ _ _ ⟨by omega, Mem.le_trans hM hM3, a', c', N', xs ++ [x.1], x.2, by rw [List.length_append, hxs]; rfl, rfl, by rw [List.map_append]; exact hO', by have := hr _ _ hx; omega, by rw [hP]; show preO xs (cons1 _ _) = _; rw [preO_cons, show 32 - (j + 1) = 31 - j by omega]; rfl, rfl⟩) ⟨rfl, rfl, rfl, rfl, trivial⟩
    · rintro _ M3 _ ⟨hM3, ⟨x, hx, hv, _⟩ | ⟨hx, hv, s', rfl⟩⟩
      · cases hv
      cases hv
      rw [hx] at hP
      exact runX_pan hC (fun _ h => h.dropAll) ⟨Mem.le_trans hM hM3, by rw [hP]; exact ⟨rfl, s', rfl⟩⟩
end Go.Proofs.YtladcmfbkiogbaaGreatDoor
namespace Go.Proofs.YtladcmfbkiogbaaGreatDoor
open Go.Chi
def hadO (e : ByteArray × Int) (r : ByteArray) : Option (ByteArray × ByteArray) := if e.2 = 0 then some (e.1, r) else none
def kindO (k : ByteArray) (r : ByteArray) : List ByteArray → Option (ByteArray × ByteArray)
  | [x] => if k = ⟨#[104]⟩ then hadO (madeE ⟨#[104]⟩ [x]) r else none
  | [x, y] => if k = ⟨#[109]⟩ then hadO (madeE ⟨#[109]⟩ [x, y]) r else none
  | [x, y, z] => if k = ⟨#[115]⟩ then hadO (madeE ⟨#[115]⟩ [x, y, z]) r else none
  | _ => none
def atO (s : ByteArray) : Option (ByteArray × ByteArray) := hadO (atomE (s.extract 0 (whileN s atomQ))) (s.extract (whileN s atomQ) s.size)
def quO (s : ByteArray) : Option (ByteArray × ByteArray) :=
  if preB (s.extract (whileN s plainR) s.size) ⟨#[34]⟩ = true then hadO (dataE (s.extract 0 (whileN s plainR))) (nextR (s.extract (whileN s plainR) s.size) ⟨#[34]⟩) else none
def pT : Nat → RT
  | 0, _ => none
  | f + 1, s =>
    if preB s ⟨#[36]⟩ = true then atO (nextR s ⟨#[36]⟩)
    else if preB s ⟨#[120]⟩ = true then (bytesR (nextR s ⟨#[120]⟩)).bind fun x => hadO (dataE x.1) x.2
    else if preB s ⟨#[34]⟩ = true then quO (nextR s ⟨#[34]⟩)
    else if preB s ⟨#[91]⟩ = true then (pP (pT f) ⟨#[93]⟩ 32 true (nextR s ⟨#[91]⟩)).bind fun x => hadO (madeE ((⟨#[114]⟩ : ByteArray) ++ numB x.1.length) x.1) x.2
    else if s.size < 1 then none
    else if preB (s.extract 1 s.size) ⟨#[40]⟩ = true then (pP (pT f) ⟨#[41]⟩ 32 true (nextR (s.extract 1 s.size) ⟨#[40]⟩)).bind fun x => kindO (s.extract 0 1) x.2 x.1 else none
theorem cat_sz {c : Nat} : ∀ {l : List ByteArray}, (∀ t ∈ l, t.size ≤ c) → (cat l).size ≤ l.length * c
  | [], _ => Nat.zero_le _
  | x :: l, h => by
    have h1 := h x List.mem_cons_self
    have h2 := cat_sz fun t ht => h t (List.mem_cons_of_mem _ ht)
    rw [cat, app_size, List.length_cons, Nat.succ_mul]; omega
def SzT (T : RT) : Prop := ∀ s x, T s = some x → x.1.size ≤ 16384 ∧ x.2.size ≤ s.size
theorem pP_sz {T : RT} {e : ByteArray} (hT : SzT T) : ∀ k b s x, pP T e k b s = some x → x.1.length ≤ k ∧ (∀ t ∈ x.1, t.size ≤ 16384) ∧ x.2.size ≤ s.size := by
  have key : ∀ k s x, (∀ b s x, pP T e k b s = some x → x.1.length ≤ k ∧ (∀ t ∈ x.1, t.size ≤ 16384) ∧ x.2.size ≤ s.size) → ((T s).bind fun x => cons1 x.1 (pP T e k false x.2)) = some x → x.1.length ≤ k + 1 ∧ (∀ t ∈ x.1, t.size ≤ 16384) ∧ x.2.size ≤ s.size := by
    intro k s x ih h
    cases ht : T s with
    | none => rw [ht] at h; cases h
    | some y =>
      rw [ht] at h
      cases hp : pP T e k false y.2 with
      | none => rw [Option.bind_some, hp] at h; cases h
      | some z =>
        rw [Option.bind_some, hp] at h
        cases h
        obtain ⟨h1, h2, h3⟩ := ih _ _ _ hp
        obtain ⟨h4, h5⟩ := hT _ _ ht
        refine ⟨by show (y.1 :: z.1).length ≤ _; rw [List.length_cons]; omega, fun t ht => ?_, by show z.2.size ≤ _; omega⟩
        rcases List.mem_cons.1 ht with rfl | ht
        · exact h4
        · exact h2 t ht
  intro k
  induction k with
  | zero =>
    intro b s x h
    rw [pP] at h
    split at h
    · cases h; exact ⟨Nat.zero_le _, by simp, next_le _ _⟩
    · cases h
  | succ k ih =>
    intro b s x h
    rw [pP] at h
    split at h
    · cases h; exact ⟨Nat.zero_le _, by simp, next_le _ _⟩
    split at h
    · exact key k s x ih h
    split at h
    · have h1 := next_le s sepB
      obtain ⟨h2, h3, h4⟩ := key k _ x ih h
      exact ⟨h2, h3, by omega⟩
    · cases h
theorem hadO_some {e : ByteArray × Int} {r : ByteArray} {x : ByteArray × ByteArray} (h : hadO e r = some x) : e.2 = 0 ∧ x = (e.1, r) := by
  unfold hadO at h
  split at h
  · cases h; exact ⟨by assumption, rfl⟩
  · cases h
theorem madeE_sz {pre : ByteArray} {xs : List ByteArray} (hp : pre.size ≤ 16384) (hz : (cat xs).size < 1000000000) : (madeE pre xs).1.size ≤ 16384 := by
  unfold madeE
  split
  · split
    · rename_i hm; exact mayB_sz (by rw [app_size]; omega) hm
    · exact Nat.zero_le _
  · exact Nat.zero_le _
theorem dataE_sz {s : ByteArray} : (dataE s).1.size ≤ 16384 := by
  unfold dataE
  split
  · exact Nat.zero_le _
  · have := textB_sz (t := s) (by omega)
    have h1 : (⟨#[100]⟩ : ByteArray).size = 1 := rfl
    rw [app_size]; omega
theorem atomE_sz {s : ByteArray} : (atomE s).1.size ≤ 16384 := by
  unfold atomE
  split
  · exact Nat.zero_le _
  split
  · have := textB_sz (t := s) (by omega)
    have h1 : (⟨#[97]⟩ : ByteArray).size = 1 := rfl
    rw [app_size]; omega
  · exact Nat.zero_le _
theorem kindO_sz {k r : ByteArray} {l : List ByteArray} {x : ByteArray × ByteArray} (hl : ∀ t ∈ l, t.size ≤ 16384) (h : kindO k r l = some x) : x.1.size ≤ 16384 ∧ x.2 = r := by
  have key : ∀ (p : ByteArray), p.size = 1 → l.length ≤ 3 → hadO (madeE p l) r = some x → x.1.size ≤ 16384 ∧ x.2 = r := by
    intro p hp hl3 h
    obtain ⟨h1, rfl⟩ := hadO_some h
    have h2 := cat_sz hl
    exact ⟨madeE_sz (by omega) (by omega), rfl⟩
  unfold kindO at h
  split at h <;> first
    | cases h
    | (split at h
       · exact key _ rfl (by simp) h
       · cases h)
theorem bytesR_sz {s : ByteArray} {x : ByteArray × ByteArray} (h : bytesR s = some x) : x.2.size ≤ s.size := by
  unfold bytesR at h
  split at h
  · split at h
    · cases h
    · cases h; show (s.extract _ _).size ≤ _; rw [ByteArray.size_extract]; omega
  · cases h
theorem quO_sz {s : ByteArray} {x : ByteArray × ByteArray} (h : quO s = some x) : x.1.size ≤ 16384 ∧ x.2.size ≤ s.size := by
  unfold quO at h
  have hr : (s.extract (whileN s plainR) s.size).size ≤ s.size := by rw [ByteArray.size_extract]; omega
  generalize s.extract (whileN s plainR) s.size = r at *
  have h3 := next_le r ⟨#[34]⟩
  split at h
  · obtain ⟨h2, rfl⟩ := hadO_some h
    exact ⟨dataE_sz, Nat.le_trans h3 hr⟩
  · cases h
theorem pT_sz : ∀ f, SzT (pT f) := by
  intro f
  induction f with
  | zero => intro s x h; cases h
  | succ f ih =>
    intro s x h
    rw [pT] at h
    split at h
    · have h1 := next_le s ⟨#[36]⟩
      obtain ⟨h2, rfl⟩ := hadO_some h
      exact ⟨atomE_sz, by show ((nextR s ⟨#[36]⟩).extract _ _).size ≤ _; rw [ByteArray.size_extract]; omega⟩
    split at h
    · have h1 := next_le s ⟨#[120]⟩
      cases hb : bytesR (nextR s ⟨#[120]⟩) with
      | none => rw [hb] at h; cases h
      | some y =>
        rw [hb, Option.bind_some] at h
        obtain ⟨h2, rfl⟩ := hadO_some h
        have := bytesR_sz hb
        exact ⟨dataE_sz, by show y.2.size ≤ _; omega⟩
    split at h
    · have h1 := next_le s ⟨#[34]⟩
      obtain ⟨h2, h3⟩ := quO_sz h
      exact ⟨h2, by omega⟩
    split at h
    · have h1 := next_le s ⟨#[91]⟩
      cases hb : pP (pT f) ⟨#[93]⟩ 32 true (nextR s ⟨#[91]⟩) with
      | none => rw [hb] at h; cases h
      | some y =>
        rw [hb, Option.bind_some] at h
        obtain ⟨h2, rfl⟩ := hadO_some h
        obtain ⟨h3, h4, h5⟩ := pP_sz ih _ _ _ _ hb
        have h6 := cat_sz h4
        have h7 := numB_size (v := y.1.length) (by omega)
        have h8 : (⟨#[114]⟩ : ByteArray).size = 1 := rfl
        exact ⟨madeE_sz (by rw [app_size]; omega) (by omega), by show y.2.size ≤ _; omega⟩
    split at h
    · cases h
    split at h
    · have h1 := next_le (s.extract 1 s.size) ⟨#[40]⟩
      rw [ByteArray.size_extract] at h1
      cases hb : pP (pT f) ⟨#[41]⟩ 32 true (nextR (s.extract 1 s.size) ⟨#[40]⟩) with
      | none => rw [hb] at h; cases h
      | some y =>
        rw [hb, Option.bind_some] at h
        obtain ⟨h3, h4, h5⟩ := pP_sz ih _ _ _ _ hb
        obtain ⟨h6, h7⟩ := kindO_sz h4 h
        exact ⟨h6, by rw [h7]; omega⟩
    · cases h
end Go.Proofs.YtladcmfbkiogbaaGreatDoor
namespace Go.Chi
section
variable {P : Program} {C : Cx} {n : Nat} {k : List Item} {ds : List Deferred} {σ : Env} {δ : Den} {M : Mem} {L : HL} {ops : Array Oper} {D X : List Nat}
theorem PRst.looked {a â : Act} {w : World} {listed : Array Bool} {fuel i : Nat} (hs : PRst P C n ops ds D X σ δ M L a â w listed fuel) (hr : i ∈ Region.ready .any ops listed) (hchk : chkE1 ops D i = true) : ∀ t ∈ looks ops i, a.tmps[t]? = â.tmps[t]? := by
  obtain ⟨_, _, hpr⟩ := (ready_iff hs.hsz).1 hr
  unfold chkE1 at hchk
  simp only [Bool.and_eq_true, Bool.not_eq_true'] at hchk
  obtain ⟨⟨⟨⟨_, _⟩, hne⟩, _⟩, hD⟩ := hchk
  have hne' := memN_false hne
  have hbef := befs_lst (listed := listed) (e := i) hs.down hpr
  intro t ht
  refine hs.agree t fun q hq hqn hqs => ?_
  have hb : memN (befs ops i) q = false := by
    cases hx : memN (befs ops i) q with
    | false => rfl
    | true =>
      rcases hbef q (memN_iff.1 hx) with rfl | hl
      · exact absurd hq hne'
      · exact absurd hl hqn
  have := List.all_eq_true.1 hD q hq
  simp only [hb, Bool.false_or, Bool.and_eq_true, Bool.not_eq_true'] at this
  have h2 := this.1.2
  rw [hqs] at h2
  exact memN_false h2 ht
theorem PRst.eff {a â : Act} {w w' : World} {listed : Array Bool} {fuel i : Nat} {dst : Option Nat} {σ' : Env} {v : Value} {M' : Mem} {L' : HL} (hs : PRst P C n ops ds D X σ δ M L a â w listed (fuel + 1)) (hr : i ∈ Region.ready .any ops listed) (hchk : chkE1 ops D i = true)
    (hsl : slotOf ops i = dst) (hsee : ∀ a, a.tmps.size = n → Sees σ δ a → Sees σ' δ (a.put dst v)) (hp' : Hp M' L' w')
    (hopen : ∀ q ∈ open_ ops D X i, ∀ a, Sees σ δ a → Pend P C.b.roundOf ops q a M L → Pend P C.b.roundOf ops q a M' L') : PRst P C n ops ds (i :: D) (i :: X) σ' δ M' L' (a.put dst v) (â.put dst v) w' (listed.setIfInBounds i true) fuel := by
  obtain ⟨hil, hin, hpr⟩ := (ready_iff hs.hsz).1 hr
  unfold chkE1 at hchk
  simp only [Bool.and_eq_true, Bool.not_eq_true'] at hchk
  obtain ⟨⟨⟨⟨hlt, hpl⟩, hne⟩, _⟩, hD⟩ := hchk
  have hne' := memN_false hne
  have hil' : i < listed.size := by rw [hs.hsz]; exact hil
  have hbef := befs_lst (listed := listed) (e := i) hs.down hpr
  have hop : ∀ q ∈ D, ¬ Lst listed q → memN (befs ops i) q = false ∧ (∀ d, dst = some d → d ∉ looks ops q ∧ slotOf ops q ≠ some d) := fun q hq hqn => by
    have hb : memN (befs ops i) q = false := by
      cases hx : memN (befs ops i) q with
      | false => rfl
      | true =>
        rcases hbef q (memN_iff.1 hx) with rfl | hl
        · exact absurd hq hne'
        · exact absurd hl hqn
    have := List.all_eq_true.1 hD q hq
    simp only [hb, Bool.false_or, Bool.and_eq_true, Bool.not_eq_true'] at this
    refine ⟨hb, fun d hd => ?_⟩
    have h3 := this.2
    rw [hsl, hd] at h3
    exact freeOf_spec h3
  have hq' : ∀ q, ¬ Lst (listed.setIfInBounds i true) q → q ≠ i ∧ ¬ Lst listed q := fun q hq => ⟨fun e => hq ((lst_set hil').2 (.inl e)), fun e => hq ((lst_set hil').2 (.inr e))⟩
  have hD' : ∀ q, q ∈ i :: D → ¬ Lst (listed.setIfInBounds i true) q → q ∈ D ∧ ¬ Lst listed q := fun q hq hqn => by
    obtain ⟨h1, h2⟩ := hq' q hqn
    exact ⟨(List.mem_cons.1 hq).resolve_left h1, h2⟩
  have hput : ∀ (x : Act) t, x.tmps.size = n → (∀ d, dst = some d → t ≠ d) → (x.put dst v).tmps[t]? = x.tmps[t]? := fun x t hx ht => by
    cases dst with
    | none => rfl
    | some d =>
      show (x.tmps.setIfInBounds d v)[t]? = _
      rw [Array.getElem?_setIfInBounds_ne (fun e => ht d rfl e.symm)]
  exact {
    hsz := by simpa using hs.hsz
    cnt := cnt_set hs.hsz hil hin hs.cnt
    an := by rw [put_size]; exact hs.an
    hn := by rw [put_size]; exact hs.hn
    ad := by rw [put_defers]; exact hs.ad
    hd := by rw [put_defers]; exact hs.hd
    sees := hsee â hs.hn hs.sees
    hp := hp'
    down := fun j hj p hp => by
      rw [lst_set hil'] at hj ⊢
      rcases hj with rfl | hj
      · exact .inr (hpr p hp)
      · exact .inr (hs.down j hj p hp)
    sub := fun j hj => by
      rw [lst_set hil'] at hj
      rcases hj with rfl | hj
      · exact List.mem_cons_self
      · exact List.mem_cons_of_mem _ (hs.sub j hj)
    ex := fun j hj => by
      rw [lst_set hil']
      rcases List.mem_cons.1 hj with rfl | hj
      · exact .inl rfl
      · exact .inr (hs.ex j hj)
    pend := fun q hq hqn => by
      obtain ⟨h1, h2⟩ := hD' q hq hqn
      have hp := hopen q (List.mem_filter.2 ⟨h1, by
        have hx : memN X q = false := by
          cases hx : memN X q with
          | false => rfl
          | true => exact absurd (hs.ex q (memN_iff.1 hx)) h2
        rw [(hop q h1 h2).1, hx]; rfl⟩) â hs.sees (hs.pend q h1 h2)
      obtain ⟨o, d, ho', hdst, _⟩ := hs.pend q h1 h2
      have hse : slotOf ops q = some d := by rw [slot_of ho']; exact hdst
      refine Pend.congr (d := d) hse (fun t ht => ?_) ?_ hp
      · exact (hput â t hs.hn fun d' hd' x => ((hop q h1 h2).2 d' hd').1 (x ▸ ht)).symm
      · exact (hput â d hs.hn fun d' hd' x => ((hop q h1 h2).2 d' hd').2 (x ▸ hse)).symm
    agree := fun t ht => by
      cases hd : dst with
      | none =>
        exact hs.agree t fun q hq hqn => ht q (List.mem_cons_of_mem _ hq) (fun x => by rw [lst_set hil'] at x; exact x.elim (fun e => by subst e; exact hne' hq) hqn)
      | some d =>
        by_cases e : t = d
        · subst e
          show (a.tmps.setIfInBounds t v)[t]? = (â.tmps.setIfInBounds t v)[t]?
          have e1 := hs.an
          have e2 := hs.hn
          by_cases hb : t < n
          · rw [Array.getElem?_setIfInBounds_self_of_lt (by omega), Array.getElem?_setIfInBounds_self_of_lt (by omega)]
          · rw [Array.getElem?_eq_none (by simp; omega), Array.getElem?_eq_none (by simp; omega)]
        · have h1 := hput a t hs.an (fun d' hd' x => e (by rw [hd] at hd'; injection hd' with hd'; rw [x, hd']))
          have h2 := hput â t hs.hn (fun d' hd' x => e (by rw [hd] at hd'; injection hd' with hd'; rw [x, hd']))
          rw [hd] at h1 h2
          rw [h1, h2]
          exact hs.agree t fun q hq hqn => ht q (List.mem_cons_of_mem _ hq) (fun x => by rw [lst_set hil'] at x; exact x.elim (fun e => by subst e; exact hne' hq) hqn)
    wf := fun j hj hjn q hq hqn => hs.wf j (hD' j hj hjn).1 (hD' j hj hjn).2 q (hD' q hq hqn).1 (hD' q hq hqn).2
    uniq := fun j hj hjn q hq hqn => hs.uniq j (hD' j hj hjn).1 (hD' j hj hjn).2 q (hD' q hq hqn).1 (hD' q hq hqn).2 }
theorem pr_callE (e : Nat) {d : Nat} {ty : TypeId} {pos : String} {aft : Array Edge} {f : FuncId} {args : Array Operand} {tys : Array TypeId} {vs : List Value} {K : Ending → Mem → HL → Prop}
    (hchk : (acyc ops && chkC ops D [e] && chkE1 ops D e) = true) (ho : ops[e]? = some ⟨some d, .call ⟨.value (.func f), args, tys⟩, ty, pos, aft, none⟩)
    (ha : evs σ δ [] args.toList = some vs) (ht : TrE P f vs M L K) (hd : Nat.blt d n = true) (hn : lkd δ d = none) (hu : unNamed δ d = true)
    (h : ∀ v M' L', K (.returned v) M' L' → PendAll P C.b.roundOf ops σ δ M' L' (open_ ops D X e) ∧ PR P C n ops k ds (e :: D) (e :: X) ((d, v) :: σ) δ M' L')
    (hp : ∀ ch M' L', K (.panicked ch) M' L' → RunX P C n (.panicking ch) ds [] M' L') : PR P C n ops k ds D X σ δ M L := by
  simp only [Bool.and_eq_true] at hchk
  obtain ⟨⟨hac, hC⟩, hE⟩ := hchk
  have hE' := hE
  unfold chkE1 at hE'
  simp only [Bool.and_eq_true, Bool.not_eq_true'] at hE'
  have hlt0 := Nat.blt_eq.mp hE'.1.1.1.1
  have hpl : plainAt ops e = true := hE'.1.1.1.2
  have hne0 := memN_false hE'.1.1.2
  refine pump hac ?_ (fun a w h1 h2 h3 h4 hall => absurd (hall e hlt0) hne0)
  intro a â w listed fuel t i hs hr hi
  obtain ⟨hil, hin, hpr⟩ := (ready_iff hs.hsz).1 hr
  obtain rfl : i = e := by
    have := List.all_eq_true.1 hC i (List.mem_range.2 hil)
    simp only [Bool.or_eq_true, Bool.not_eq_true'] at this
    rcases this with (h1 | h1) | h1
    · exact absurd (memN_iff.1 h1) hi
    · exact List.mem_singleton.1 (memN_iff.1 h1)
    · have : (predsAt ops i).all (memN D) = true := List.all_eq_true.2 fun p hp => memN_iff.2 (hs.sub p (hpr p hp))
      rw [this] at h1; cases h1
  have hsl : slotOf ops i = some d := by rw [slot_of ho]
  have hag : ∀ t ∈ Oper.looksAt ops ⟨some d, .call ⟨.value (.func f), args, tys⟩, ty, pos, aft, none⟩, a.tmps[t]? = â.tmps[t]? := fun t ht => by
    refine hs.looked hr hE t ?_
    unfold looks; rw [ho]; exact ht
  have hg := stepGR_op (P := P) (b := C.b) (k := k) (cs := C.cs) (w := w) (rest := Region.linearise.go .any ops fuel t (listed.setIfInBounds i true) []) (a := a) ho (wanted_none rfl _)
  have hrun : ((⟨some d, .call ⟨.value (.func f), args, tys⟩, ty, pos, aft, none⟩ : Oper).semAt C.b.roundOf a.eval).run P w = .ok (.enter f ⟨vs⟩) w := by
    rw [sem_agree (ops := ops) (a' := â) rfl hag]
    rw [semAt_of (by intro c e; cases e)]
    have e1 : args.map â.eval = ⟨vs⟩ := by apply Array.ext'; simpa using evs_sound hs.sees (holds_nil â) ha
    simp only [execOp, resolve, e1, Act.eval, Deferred.ofValue, Sem.run_bind, Sem.run_pure, Result.andThen_ok, invoke]
    simpa using ht.1 w
  obtain ⟨en, w'', fr, ⟨M', L', hp', hK⟩, hne, hsteps, _, hl⟩ := ht.2 w hs.hp (C.b.atR a (.inRegion ops (i :: Region.linearise.go .any ops fuel t (listed.setIfInBounds i true) []) :: k) :: C.cs)
  have henter : step P (lone (C.b.atR a (.inRegion ops (i :: Region.linearise.go .any ops fuel t (listed.setIfInBounds i true) []) :: k)) C.cs w) =
      .next (lone (Frame.enter P f ⟨vs⟩ .normal) (C.b.atR a (.inRegion ops (i :: Region.linearise.go .any ops fuel t (listed.setIfInBounds i true) []) :: k) :: C.cs) w) :=
    step_lone_go (by rw [hg]; simp [stepG.apply, hrun, Frame.atR])
  cases en with
  | outgrown => exact absurd rfl hne
  | returned v =>
    have hstep := step_leave_returned (c := C.b.atR a (.inRegion ops (i :: Region.linearise.go .any ops fuel t (listed.setIfInBounds i true) []) :: k)) (cs := C.cs) hl
    rw [finish_op ho] at hstep
    obtain ⟨h5, h6⟩ := h v M' L' hK
    exact J.steps (.head henter (hsteps.trans (.one hstep))) (h6 _ (â.put (some d) v) w'' _ fuel t (hs.eff hr hE hsl (fun a hn' hse => hse.put (by rw [hn']; exact Nat.blt_eq.mp hd) hn hu v) hp' (fun q hq a hse _ => h5.mem q hq a hse)))
  | panicked ch =>
    have hstep := step_leave_panicked (c := C.b.atR a (.inRegion ops (i :: Region.linearise.go .any ops fuel t (listed.setIfInBounds i true) []) :: k)) (cs := C.cs) hl
    have hra : (C.b.atR a (.inRegion ops (i :: Region.linearise.go .any ops fuel t (listed.setIfInBounds i true) []) :: k)).raise ch = { C.b.atR a (.inRegion ops (i :: Region.linearise.go .any ops fuel t (listed.setIfInBounds i true) []) :: k) with mode := .panicking ch } := by simp [Frame.raise, Frame.atR]
    rw [hra] at hstep
    exact J.steps (.head henter (hsteps.trans (.one hstep))) (hp ch M' L' hK a w'' _ hs.an hs.ad ⟨fun t v e => by simp [lks] at e, fun t p v e => by simp [lkd] at e⟩ hp')
theorem prn_callE {i d : Nat} {ty : TypeId} {pos : String} {aft : Array Edge} {f : FuncId} {args : Array Operand} {tys : Array TypeId} {vs : List Value} {K : Ending → Mem → HL → Prop}
    (ho : ops[i]? = some ⟨some d, .call ⟨.value (.func f), args, tys⟩, ty, pos, aft, none⟩) (hchk : (acyc ops && chkC ops (dn i) [i] && chkE1 ops (dn i) i) = true)
    (ha : evs σ δ [] args.toList = some vs) (ht : TrE P f vs M L K) (hd : Nat.blt d n = true) (hn : lkd δ d = none) (hu : unNamed δ d = true)
    (hp : ∀ ch M' L', K (.panicked ch) M' L' → RunX P C n (.panicking ch) ds [] M' L')
    (h : ∀ v M' L', K (.returned v) M' L' → PendAll P C.b.roundOf ops σ δ M' L' (open_ ops (dn i) X i) ∧ PR P C n ops k ds (dn (i + 1)) (i :: X) ((d, v) :: σ) δ M' L') : PR P C n ops k ds (dn i) X σ δ M L := pr_callE i hchk ho ha ht hd hn hu h hp
end
end Go.Chi
namespace Go.Proofs.YtladcmfbkiogbaaGreatDoor
open Go.Chi
set_option maxRecDepth 10000
theorem nextF {s p : ByteArray} (h : preB s p = false) : nextR s p = s := by rw [nextR, if_neg (by rw [h]; decide)]
theorem hadR {C : Cx} {n : Nat} {ops : Array Oper} {l : List Oper} {k : List Item} {ds : List Deferred} {σ : Env} {δ : Den} {M : Mem} {L : HL} {e : ByteArray × Int} {d : Nat} {ty : TypeId} {pos : String} {aft : Array Edge} {args : Array Operand} {tys : Array TypeId}
    (h : e.2 = 0 → RunL Tryz.prog C n ops l k ds ((d, .string e.1) :: σ) δ M L) (hp : e.2 ≠ 0 → RunX Tryz.prog C n (.panicking panW) ds σ M L) (ha : evs σ δ [] args.toList = some [.string e.1, .int .i64 e.2] := by exact rfl) (hd : Nat.blt d n = true := by exact rfl) (hn : lkd δ d = none := by exact rfl) (hu : unNamed δ d = true := by exact rfl) :
    RunL Tryz.prog C n ops (⟨some d, .call ⟨.value (.func 228), args, tys⟩, ty, pos, aft, none⟩ :: l) k ds σ δ M L := by
  refine ec (had_ok M L e) ?_ ?_ ha hd hn hu
  · rintro v _ _ ⟨rfl, rfl, hv⟩
    split at hv
    · cases hv; exact h (by assumption)
    · cases hv
  · rintro ch _ _ ⟨rfl, rfl, hv⟩
    split at hv
    · cases hv
    · cases hv; exact hp (by assumption)
theorem hadRP {C : Cx} {n : Nat} {ops : Array Oper} {k : List Item} {ds : List Deferred} {σ : Env} {δ : Den} {M : Mem} {L : HL} {X : List Nat} {e : ByteArray × Int} {i d : Nat} {ty : TypeId} {pos : String} {aft : Array Edge} {args : Array Operand} {tys : Array TypeId}
    (h : e.2 = 0 → PendAll Tryz.prog C.b.roundOf ops σ δ M L (open_ ops (dn i) X i) ∧ PR Tryz.prog C n ops k ds (dn (i + 1)) (i :: X) ((d, .string e.1) :: σ) δ M L) (hp : e.2 ≠ 0 → RunX Tryz.prog C n (.panicking panW) ds [] M L)
    (ho : ops[i]? = some ⟨some d, .call ⟨.value (.func 228), args, tys⟩, ty, pos, aft, none⟩ := by exact rfl) (hchk : (acyc ops && chkC ops (dn i) [i] && chkE1 ops (dn i) i) = true := by decide +kernel) (ha : evs σ δ [] args.toList = some [.string e.1, .int .i64 e.2] := by exact rfl) (hd : Nat.blt d n = true := by exact rfl) (hn : lkd δ d = none := by exact rfl) (hu : unNamed δ d = true := by exact rfl) :
    PR Tryz.prog C n ops k ds (dn i) X σ δ M L := by
  refine prn_callE ho hchk ha (had_ok M L e) hd hn hu ?_ ?_
  · rintro ch _ _ ⟨rfl, rfl, hv⟩
    split at hv
    · cases hv
    · cases hv; exact hp (by assumption)
  · rintro v _ _ ⟨rfl, rfl, hv⟩
    split at hv
    · cases hv; exact h (by assumption)
    · cases hv
theorem bytesR_len {s : ByteArray} {x : ByteArray × ByteArray} (h : bytesR s = some x) : x.1.size ≤ s.size := by
  unfold bytesR at h
  split at h
  · split at h
    · cases h
    · cases h
      show (bs (unhex _)).size ≤ _
      rw [← ba_len, unhex_len, ba_len, ByteArray.size_extract]; omega
  · cases h
set_option maxHeartbeats 8000000 in
theorem wterm_ok (f : Nat) : f ≤ 17 → ∀ (dp : Int), dp = 17 - (f : Int) → ∀ (M : Mem) (L : HL) (br : Nat) (s : ByteArray), s.size < 1000000 → TrE Tryz.prog 200 [pt br, .int .i64 dp] M (rdB br s :: L) (tmK br M L (pT f s)) := by
  induction f with
  | zero =>
    intro hf dp hdp M L br s hs
    refine TrE.intro 130 Tryz.func200 rfl rfl Tryz.call200 rfl ?_; intro C hC hro
    repeat (first | refine yy ?_ | refine yx fun _ => ?_)
    refine mustR (b := decide (dp ≤ 16)) (fun h => ?_) (fun _ => ?_)
    · have := of_decide_eq_true h; omega
    · exact runX_pan hC (fun _ h => h) ⟨Mem.le_refl _, rfl, _, rfl⟩
  | succ f ih =>
  intro hf dp hdp M L br s hs
  have hT := fun M L s hs => ih (by omega) (IntKind.i64.wrap (dp + 1)) (by rw [IntWalk.i64_in _ (by omega)]; omega) M L br s hs
  clear ih
  obtain ⟨R, hR⟩ : ∃ R, pT (f + 1) s = R := ⟨_, rfl⟩
  rw [hR]
  rw [pT] at hR
  refine TrE.intro 130 Tryz.func200 rfl rfl Tryz.call200 rfl ?_; intro C hC hro
  repeat (first | refine yy ?_ | refine yx fun _ => ?_)
  refine mustR (b := decide (dp ≤ 16)) (fun _ => ?_) (fun h => ?_)
  rotate_left
  · have := of_decide_eq_false h; omega
  repeat (first | refine yy ?_ | refine yx fun _ => ?_)
  refine oc (wnext_ok _ _ br s ⟨#[36]⟩) ?_
  rintro _ _ _ ⟨rfl, rfl, rfl⟩
  repeat (first | refine yy ?_ | refine yx fun _ => ?_)
  refine run_cond (t := preB s ⟨#[36]⟩) rfl (fun h => ?_) (fun h => ?_)
  · rw [if_pos h] at hR
    rw [atO] at hR
    generalize hn1 : nextR s ⟨#[36]⟩ = s1 at *
    have hs1 : s1.size < 1000000 := by have := next_le s ⟨#[36]⟩; rw [hn1] at this; omega
    have hw := while_le s1 atomQ
    repeat (first | refine yy ?_ | refine yx fun _ => ?_ | refine qc (while_ok _ _ s1 _ atomQ atomq_ok) ?_)
    refine ec (wcut_ok _ _ br (whileN s1 atomQ) s1) ?_ (by rintro ch _ _ ⟨_, hv⟩; rw [if_pos hw] at hv; cases hv.1)
    rintro v _ _ ⟨rfl, hv⟩
    rw [if_pos hw] at hv
    obtain ⟨hv, rfl⟩ := hv
    cases hv
    have hz : (s1.extract 0 (whileN s1 atomQ)).size < 1000000000 := by rw [ByteArray.size_extract]; omega
    repeat (first | refine yy ?_ | refine yx fun _ => ?_ | refine qc (atom_ok _ _ _ hz) ?_)
    refine hadR (e := atomE (s1.extract 0 (whileN s1 atomQ))) (fun h0 => ?_) (fun h0 => ?_)
    · rw [hadO, if_pos h0] at hR
      repeat (first | refine yy ?_ | refine yx fun _ => ?_)
      refine run_retX hro ?_
      exact runX_ret hC (rs := [.tmp 4]) rfl (resT rfl resN) (fun _ h => h) ⟨Mem.le_refl _, by rw [← hR]; exact ⟨rfl, rfl⟩⟩
    · rw [hadO, if_neg h0] at hR
      exact runX_pan hC (fun _ h => h) ⟨Mem.le_refl _, by rw [← hR]; exact ⟨rfl, _, rfl⟩⟩
  rw [if_neg (by rw [h]; decide)] at hR
  rw [nextF h]
  clear h
  repeat (first | refine yy ?_ | refine yx fun _ => ?_)
  refine oc (wnext_ok _ _ br s ⟨#[120]⟩) ?_
  rintro _ _ _ ⟨rfl, rfl, rfl⟩
  repeat (first | refine yy ?_ | refine yx fun _ => ?_)
  refine run_cond (t := preB s ⟨#[120]⟩) rfl (fun h => ?_) (fun h => ?_)
  · rw [if_pos h] at hR
    generalize hn1 : nextR s ⟨#[120]⟩ = s1 at *
    have hs1 : s1.size < 1000000 := by have := next_le s ⟨#[120]⟩; rw [hn1] at this; omega
    repeat (first | refine yy ?_ | refine yx fun _ => ?_)
    refine ec (wbytes_ok _ _ br s1 hs1) ?_ ?_
    rotate_left
    · rintro ch _ _ ⟨rfl, hv⟩
      split at hv
      · cases hv.1
      rename_i hb
      obtain ⟨hv, s', rfl⟩ := hv
      cases hv
      rw [hb] at hR
      exact runX_pan hC (fun _ h => h) ⟨Mem.le_refl _, by rw [← hR]; exact ⟨rfl, s', rfl⟩⟩
    rintro v _ _ ⟨rfl, hv⟩
    split at hv
    rotate_left
    · cases hv.1
    rename_i x hb
    obtain ⟨hv, rfl⟩ := hv
    cases hv
    rw [hb, Option.bind_some] at hR
    have hz := bytesR_len hb
    repeat (first | refine yy ?_ | refine yx fun _ => ?_ | refine qc (data_ok _ _ x.1 (by omega)) ?_)
    refine hadR (e := dataE x.1) (fun h0 => ?_) (fun h0 => ?_)
    · rw [hadO, if_pos h0] at hR
      repeat (first | refine yy ?_ | refine yx fun _ => ?_)
      refine run_retX hro ?_
      exact runX_ret hC (rs := [.tmp 4]) rfl (resT rfl resN) (fun _ h => h) ⟨Mem.le_refl _, by rw [← hR]; exact ⟨rfl, rfl⟩⟩
    · rw [hadO, if_neg h0] at hR
      exact runX_pan hC (fun _ h => h) ⟨Mem.le_refl _, by rw [← hR]; exact ⟨rfl, _, rfl⟩⟩
  rw [if_neg (by rw [h]; decide)] at hR
  rw [nextF h]
  clear h
  repeat (first | refine yy ?_ | refine yx fun _ => ?_)
  refine oc (wnext_ok _ _ br s ⟨#[34]⟩) ?_
  rintro _ _ _ ⟨rfl, rfl, rfl⟩
  repeat (first | refine yy ?_ | refine yx fun _ => ?_)
  refine run_cond (t := preB s ⟨#[34]⟩) rfl (fun h => ?_) (fun h => ?_)
  · rw [if_pos h] at hR
    rw [quO] at hR
    generalize hn1 : nextR s ⟨#[34]⟩ = s1 at *
    have hs1 : s1.size < 1000000 := by have := next_le s ⟨#[34]⟩; rw [hn1] at this; omega
    have hw := while_le s1 plainR
    repeat (first | refine yy ?_ | refine yx fun _ => ?_ | refine qc (while_ok _ _ s1 _ plainR plainc_ok) ?_)
    refine ec (wcut_ok _ _ br (whileN s1 plainR) s1) ?_ (by rintro ch _ _ ⟨_, hv⟩; rw [if_pos hw] at hv; cases hv.1)
    rintro v _ _ ⟨rfl, hv⟩
    rw [if_pos hw] at hv
    obtain ⟨hv, rfl⟩ := hv
    cases hv
    have hz : (s1.extract 0 (whileN s1 plainR)).size < 1000000000 := by rw [ByteArray.size_extract]; omega
    repeat (first | refine yy ?_ | refine yx fun _ => ?_)
    refine oc (wnext_ok _ _ br _ ⟨#[34]⟩) ?_
    rintro _ _ _ ⟨rfl, rfl, rfl⟩
    refine mustR (b := preB (s1.extract (whileN s1 plainR) s1.size) ⟨#[34]⟩) (fun h2 => ?_) (fun h2 => ?_)
    rotate_left
    · rw [if_neg (by rw [h2]; decide)] at hR
      exact runX_pan hC (fun _ h => h) ⟨Mem.le_refl _, by rw [← hR]; exact ⟨rfl, _, rfl⟩⟩
    rw [if_pos h2] at hR
    repeat (first | refine yy ?_ | refine yx fun _ => ?_ | refine qc (data_ok _ _ _ hz) ?_)
    refine hadR (e := dataE (s1.extract 0 (whileN s1 plainR))) (fun h0 => ?_) (fun h0 => ?_)
    · rw [hadO, if_pos h0] at hR
      repeat (first | refine yy ?_ | refine yx fun _ => ?_)
      refine run_retX hro ?_
      exact runX_ret hC (rs := [.tmp 4]) rfl (resT rfl resN) (fun _ h => h) ⟨Mem.le_refl _, by rw [← hR]; exact ⟨rfl, rfl⟩⟩
    · rw [hadO, if_neg h0] at hR
      exact runX_pan hC (fun _ h => h) ⟨Mem.le_refl _, by rw [← hR]; exact ⟨rfl, _, rfl⟩⟩
  rw [if_neg (by rw [h]; decide)] at hR
  rw [nextF h]
  clear h
  repeat (first | refine yy ?_ | refine yx fun _ => ?_)
  refine oc (wnext_ok _ _ br s ⟨#[91]⟩) ?_
  rintro _ _ _ ⟨rfl, rfl, rfl⟩
  repeat (first | refine yy ?_ | refine yx fun _ => ?_)
  refine run_cond (t := preB s ⟨#[91]⟩) rfl (fun h => ?_) (fun h => ?_)
  · rw [if_pos h] at hR
    generalize hn1 : nextR s ⟨#[91]⟩ = s1 at *
    have hs1 : s1.size < 1000000 := by have := next_le s ⟨#[91]⟩; rw [hn1] at this; omega
    repeat (first | refine zc ?_ | refine vq ?_)
    refine ec (wparts_ok _ _ br ⟨#[93]⟩ s1 _ (pT f) hs1 (fun M L s hs => hT M L s hs) (fun s x hx => (pT_sz f s x hx).2)) ?_ ?_
    rotate_left
    · rintro ch M3 _ ⟨hM3, hv⟩
      split at hv
      · obtain ⟨_, _, _, hv, _⟩ := hv
        cases hv
      rename_i hb
      obtain ⟨hv, s', rfl⟩ := hv
      cases hv
      rw [hb] at hR
      exact runX_pan hC (fun _ h => h) ⟨hM3, by rw [← hR]; exact ⟨rfl, s', rfl⟩⟩
    rintro v M3 _ ⟨hM3, hv⟩
    split at hv
    rotate_left
    · cases hv.1
    rename_i x hb
    obtain ⟨S, hS, hSx, hv, rfl⟩ := hv
    cases hv
    rw [hb, Option.bind_some] at hR
    obtain ⟨hl32, hlz, _⟩ := pP_sz (pT_sz f) _ _ _ _ hb
    have hcat := cat_sz hlz
    rw [← hSx] at hR hcat
    repeat (first | refine yy ?_ | refine yx fun _ => ?_ | refine qc (row_ok _ _ S hS (by rw [hSx] at *; omega)) ?_)
    refine hadR (e := madeE ((⟨#[114]⟩ : ByteArray) ++ numB S.xs.length) S.xs) (fun h0 => ?_) (fun h0 => ?_)
    · rw [hadO, if_pos h0] at hR
      repeat (first | refine yy ?_ | refine yx fun _ => ?_)
      refine run_retX hro ?_
      exact runX_ret hC (rs := [.tmp 4]) rfl (resT rfl resN) (fun _ h => h) ⟨hM3, by rw [← hR]; exact ⟨rfl, rfl⟩⟩
    · rw [hadO, if_neg h0] at hR
      exact runX_pan hC (fun _ h => h) ⟨hM3, by rw [← hR]; exact ⟨rfl, _, rfl⟩⟩
  rw [if_neg (by rw [h]; decide)] at hR
  rw [nextF h]
  clear h
  repeat (first | refine yy ?_ | refine yx fun _ => ?_)
  refine ec (wcut_ok _ _ br 1 s) ?_ ?_
  rotate_left
  · rintro ch _ _ ⟨rfl, hv⟩
    split at hv
    · cases hv.1
    obtain ⟨hv, rfl⟩ := hv
    cases hv
    rw [if_pos (by omega)] at hR
    exact runX_pan hC (fun _ h => h) ⟨Mem.le_refl _, by rw [← hR]; exact ⟨rfl, _, rfl⟩⟩
  rintro v _ _ ⟨rfl, hv⟩
  split at hv
  rotate_left
  · cases hv.1
  rename_i hs0
  obtain ⟨hv, rfl⟩ := hv
  cases hv
  rw [if_neg (by omega)] at hR
  generalize hk : s.extract 0 1 = k at *
  generalize hr1 : s.extract 1 s.size = r1 at *
  have hr1z : r1.size < 1000000 := by rw [← hr1, ByteArray.size_extract]; omega
  repeat (first | refine yy ?_ | refine yx fun _ => ?_)
  refine oc (wnext_ok _ _ br r1 ⟨#[40]⟩) ?_
  rintro _ _ _ ⟨rfl, rfl, rfl⟩
  repeat (first | refine yy ?_ | refine yx fun _ => ?_)
  refine mustR (b := preB r1 ⟨#[40]⟩) (fun h2 => ?_) (fun h2 => ?_)
  rotate_left
  · rw [if_neg (by rw [h2]; decide)] at hR
    exact runX_pan hC (fun _ h => h) ⟨Mem.le_refl _, by rw [← hR]; exact ⟨rfl, _, rfl⟩⟩
  rw [if_pos h2] at hR
  have hs2z := next_le r1 ⟨#[40]⟩
  generalize nextR r1 ⟨#[40]⟩ = s2 at *
  repeat (first | refine yy ?_ | refine yx fun _ => ?_)
  refine ec (wparts_ok _ _ br ⟨#[41]⟩ s2 _ (pT f) (by omega) (fun M L s hs => hT M L s hs) (fun s x hx => (pT_sz f s x hx).2)) ?_ ?_
  rotate_left
  · rintro ch M3 _ ⟨hM3, hv⟩
    split at hv
    · obtain ⟨_, _, _, hv, _⟩ := hv
      cases hv
    rename_i hb
    obtain ⟨hv, s', rfl⟩ := hv
    cases hv
    rw [hb] at hR
    exact runX_pan hC (fun _ h => h) ⟨hM3, by rw [← hR]; exact ⟨rfl, s', rfl⟩⟩
  rintro v M3 _ ⟨hM3, hv⟩
  split at hv
  rotate_left
  · cases hv.1
  rename_i x hb
  obtain ⟨S, hS, hSx, hv, rfl⟩ := hv
  cases hv
  rw [hb, Option.bind_some] at hR
  obtain ⟨hl32, hlz, _⟩ := pP_sz (pT_sz f) _ _ _ _ hb
  have hcat := cat_sz hlz
  obtain ⟨xs, r⟩ := x
  obtain ⟨a, n, c, xs'⟩ := S
  have hlen := hS.len
  have h0 := hS.1
  simp only [SStr.Ok] at h0
  cases hSx
  simp only [SStr.v] at *
  replace h0 : SlM M3 1 a n (xs.map stC) := h0
  repeat (first | refine yy ?_ | refine yx fun _ => ?_)
  refine run_cond (t := k.toList == (⟨#[104]⟩ : ByteArray).toList && ((n : Int) == 1)) rfl (fun h104 => ?_) (fun h104 => ?_)
  · simp only [bytes_beq, Bool.and_eq_true, beq_iff_eq, decide_eq_true_eq] at h104
    obtain ⟨hkk, hn⟩ := h104
    have hn' : n = 1 := by omega
    subst hn'
    obtain ⟨x0, hxs⟩ : ∃ x0, xs = [x0] := by
      match xs, hlen with
      | [x0], _ => exact ⟨_, rfl⟩
    subst hxs
    rw [kindO, if_pos hkk] at hR
    have hz0 : x0.size < 100000000 := by have := hlz x0 (by simp); omega
    obtain ⟨b0, o0, y0, ha0, hy0, hc0⟩ := SStr.at_ h0 (j := 0) (by omega)
    simp only [List.getElem?_cons_zero, Option.some.injEq] at hy0
    subst hy0
    subst ha0
    repeat (first | refine yy ?_ | refine yx fun _ => ?_ | refine qc (hash_ok _ _ x0 hz0) ?_)
    refine hadR (e := madeE ⟨#[104]⟩ [x0]) (fun h0 => ?_) (fun h0 => ?_)
    · rw [hadO, if_pos h0] at hR
      repeat (first | refine yy ?_ | refine yx fun _ => ?_)
      refine run_retX hro ?_
      exact runX_ret hC (rs := [.tmp 4]) rfl (resT rfl resN) (fun _ h => h) ⟨hM3, by rw [← hR]; exact ⟨rfl, rfl⟩⟩
    · rw [hadO, if_neg h0] at hR
      exact runX_pan hC (fun _ h => h) ⟨hM3, by rw [← hR]; exact ⟨rfl, _, rfl⟩⟩
  repeat (first | refine yy ?_ | refine yx fun _ => ?_)
  refine run_cond (t := k.toList == (⟨#[109]⟩ : ByteArray).toList && ((n : Int) == 2)) rfl (fun h109 => ?_) (fun h109 => ?_)
  · simp only [bytes_beq, Bool.and_eq_true, beq_iff_eq, decide_eq_true_eq] at h109
    obtain ⟨hkk, hn⟩ := h109
    have hn' : n = 2 := by omega
    subst hn'
    obtain ⟨x0, x1, hxs⟩ : ∃ x0 x1, xs = [x0, x1] := by
      match xs, hlen with
      | [x0, x1], _ => exact ⟨_, _, rfl⟩
    subst hxs
    rw [kindO, if_pos hkk] at hR
    have hz0 : x0.size < 100000000 := by have := hlz x0 (by simp); omega
    obtain ⟨b0, o0, y0, ha0, hy0, hc0⟩ := SStr.at_ h0 (j := 0) (by omega)
    simp only [List.getElem?_cons_zero, Option.some.injEq] at hy0
    subst hy0
    subst ha0
    have hz1 : x1.size < 100000000 := by have := hlz x1 (by simp); omega
    obtain ⟨b1, o1, y1, ha1, hy1, hc1⟩ := SStr.at_ h0 (j := 1) (by omega)
    simp only [List.getElem?_cons_zero, List.getElem?_cons_succ, Option.some.injEq] at hy1
    subst hy1
    cases ha1
    repeat (first | refine yy ?_ | refine dd ?_ | refine yd ?_ | refine yx fun _ => ?_ | refine pc (mac_ok _ _ x0 x1 hz0 hz1) ?_)
    refine hadRP (e := madeE ⟨#[109]⟩ [x0, x1]) (fun h0 => ?_) (fun h0 => ?_)
    · rw [hadO, if_pos h0] at hR
      refine ⟨by (repeat (first | exact trivial | refine And.intro (pend_q rfl rfl rfl (by first | refine qt_pev tok rfl | refine ql tok rfl | refine qt_indexN tok rfl rfl rfl rfl (fun hy => by first | assumption | omega | (have h0 := hy.1; simp at h0; omega)) | refine qt_index tok rfl rfl rfl rfl (fun _ => by decide) | refine qt_ldM tok rfl (by first | assumption | exact Cells.le (by assumption) (by assumption)) rfl | refine qt_ldM0 tok rfl (by first | assumption | exact Cells.le (by assumption) (by assumption)) rfl | refine qt_strIndex tok rfl rfl rfl (fun _ => by assumption) | refine qt_strIndex (n := 0) tok rfl rfl rfl (fun _ => by assumption) | refine qt_strLo tok rfl rfl rfl (fun hy => by first | assumption | omega | (have h0 := hy.1; simp at h0; omega)) | refine qt_strHi tok rfl rfl rfl (fun hy => by first | assumption | omega | (have h0 := hy.1; simp at h0; omega)) | refine qt_strMid tok rfl rfl rfl rfl (fun hy => by first | assumption | omega | (have h0 := hy.1; simp at h0; omega)) | refine qt_concat rfl rfl (by first | assumption | omega | (simp only [app_size] at *; omega)) | refine qt_shr rfl rfl (fun _ => by decide) | refine qt_makeIfaceC tok rfl rfl rfl | refine qt_assertC tok rfl rfl rfl | refine qt_assertCk tok rfl rfl rfl)) ?_)), ?_⟩
      repeat (first | refine yy ?_ | refine dd ?_ | refine yd ?_ | refine yx fun _ => ?_)
      refine run_retX hro ?_
      exact runX_ret hC (rs := [.tmp 4]) rfl (resT rfl resN) (fun _ h => h) ⟨hM3, by rw [← hR]; exact ⟨rfl, rfl⟩⟩
    · rw [hadO, if_neg h0] at hR
      exact runX_pan hC (fun _ h => h) ⟨hM3, by rw [← hR]; exact ⟨rfl, _, rfl⟩⟩
  repeat (first | refine yy ?_ | refine yx fun _ => ?_)
  refine run_cond (t := k.toList == (⟨#[115]⟩ : ByteArray).toList && ((n : Int) == 3)) rfl (fun h115 => ?_) (fun h115 => ?_)
  · simp only [bytes_beq, Bool.and_eq_true, beq_iff_eq, decide_eq_true_eq] at h115
    obtain ⟨hkk, hn⟩ := h115
    have hn' : n = 3 := by omega
    subst hn'
    obtain ⟨x0, x1, x2, hxs⟩ : ∃ x0 x1 x2, xs = [x0, x1, x2] := by
      match xs, hlen with
      | [x0, x1, x2], _ => exact ⟨_, _, _, rfl⟩
    subst hxs
    rw [kindO, if_pos hkk] at hR
    have hz0 : x0.size < 100000000 := by have := hlz x0 (by simp); omega
    obtain ⟨b0, o0, y0, ha0, hy0, hc0⟩ := SStr.at_ h0 (j := 0) (by omega)
    simp only [List.getElem?_cons_zero, Option.some.injEq] at hy0
    subst hy0
    subst ha0
    have hz1 : x1.size < 100000000 := by have := hlz x1 (by simp); omega
    obtain ⟨b1, o1, y1, ha1, hy1, hc1⟩ := SStr.at_ h0 (j := 1) (by omega)
    simp only [List.getElem?_cons_zero, List.getElem?_cons_succ, Option.some.injEq] at hy1
    subst hy1
    cases ha1
    have hz2 : x2.size < 100000000 := by have := hlz x2 (by simp); omega
    obtain ⟨b2, o2, y2, ha2, hy2, hc2⟩ := SStr.at_ h0 (j := 2) (by omega)
    simp only [List.getElem?_cons_zero, List.getElem?_cons_succ, Option.some.injEq] at hy2
    subst hy2
    cases ha2
    repeat (first | refine yy ?_ | refine dd ?_ | refine yd ?_ | refine yx fun _ => ?_ | refine pc (seal_ok _ _ x0 x1 x2 hz0 hz1 hz2) ?_)
    refine hadRP (e := madeE ⟨#[115]⟩ [x0, x1, x2]) (fun h0 => ?_) (fun h0 => ?_)
    · rw [hadO, if_pos h0] at hR
      refine ⟨by (repeat (first | exact trivial | refine And.intro (pend_q rfl rfl rfl (by first | refine qt_pev tok rfl | refine ql tok rfl | refine qt_indexN tok rfl rfl rfl rfl (fun hy => by first | assumption | omega | (have h0 := hy.1; simp at h0; omega)) | refine qt_index tok rfl rfl rfl rfl (fun _ => by decide) | refine qt_ldM tok rfl (by first | assumption | exact Cells.le (by assumption) (by assumption)) rfl | refine qt_ldM0 tok rfl (by first | assumption | exact Cells.le (by assumption) (by assumption)) rfl | refine qt_strIndex tok rfl rfl rfl (fun _ => by assumption) | refine qt_strIndex (n := 0) tok rfl rfl rfl (fun _ => by assumption) | refine qt_strLo tok rfl rfl rfl (fun hy => by first | assumption | omega | (have h0 := hy.1; simp at h0; omega)) | refine qt_strHi tok rfl rfl rfl (fun hy => by first | assumption | omega | (have h0 := hy.1; simp at h0; omega)) | refine qt_strMid tok rfl rfl rfl rfl (fun hy => by first | assumption | omega | (have h0 := hy.1; simp at h0; omega)) | refine qt_concat rfl rfl (by first | assumption | omega | (simp only [app_size] at *; omega)) | refine qt_shr rfl rfl (fun _ => by decide) | refine qt_makeIfaceC tok rfl rfl rfl | refine qt_assertC tok rfl rfl rfl | refine qt_assertCk tok rfl rfl rfl)) ?_)), ?_⟩
      repeat (first | refine yy ?_ | refine dd ?_ | refine yd ?_ | refine yx fun _ => ?_)
      refine run_retX hro ?_
      exact runX_ret hC (rs := [.tmp 4]) rfl (resT rfl resN) (fun _ h => h) ⟨hM3, by rw [← hR]; exact ⟨rfl, rfl⟩⟩
    · rw [hadO, if_neg h0] at hR
      exact runX_pan hC (fun _ h => h) ⟨hM3, by rw [← hR]; exact ⟨rfl, _, rfl⟩⟩
  repeat (first | refine yy ?_ | refine yx fun _ => ?_)
  have hno : kindO k r xs = none := by
    simp only [bytes_beq, Bool.and_eq_false_imp, decide_eq_true_eq, beq_eq_false_iff_ne] at h104 h109 h115
    match xs, hlen with
    | [], _ => rfl
    | [x], e => rw [kindO, if_neg]; intro e2; have := h104 e2; rw [← e] at this; simp at this
    | [x, y], e => rw [kindO, if_neg]; intro e2; have := h109 e2; rw [← e] at this; simp at this
    | [x, y, z], e => rw [kindO, if_neg]; intro e2; have := h115 e2; rw [← e] at this; simp at this
    | _ :: _ :: _ :: _ :: _, _ => rfl
  rw [hno] at hR
  refine runL_panic hro rfl ?_
  exact runX_pan hC (fun _ h => h) ⟨hM3, by rw [← hR]; exact ⟨rfl, _, rfl⟩⟩
end Go.Proofs.YtladcmfbkiogbaaGreatDoor
namespace Go.Proofs.YtladcmfbkiogbaaGreatDoor
open Go.Chi
set_option maxRecDepth 10000
def parseE (s : ByteArray) : ByteArray × Int := match pT 16 s with
  | some x => if x.2 = ⟨#[]⟩ then (x.1, 0) else (⟨#[]⟩, 7)
  | none => (⟨#[]⟩, 7)
abbrev strB (b : Nat) (t : ByteArray) : Nat × Obj := (b, .cells ⟨[.string t]⟩ 9 (0, 0))
abbrev errB (b : Nat) (e : Int) : Nat × Obj := (b, .cells ⟨[.int .i64 e]⟩ 29 (0, 0))
set_option maxHeartbeats 8000000 in
theorem sparse_ok (M : Mem) (L : HL) (s : ByteArray) (hs : s.size < 1000000) : TrQ Tryz.prog 163 [.string s] M L (resE (parseE s)) := by
  refine TrE.tr (K := fun en M' L' => en = .returned (resE (parseE s)) ∧ M = M' ∧ L = L') ?_ (fun e M' L' ⟨h1, h2, h3⟩ => ⟨_, h1, rfl, h2.symm, h3.symm⟩)
  refine TrE.intro 18 Tryz.func163 rfl rfl Tryz.call163 rfl ?_; intro C hC hro
  repeat (first | refine yy ?_ | refine yx fun _ => ?_)
  rename_i ba be
  have hthrow : ∀ (M1 : Mem) (s' t : ByteArray) (br : Nat), M.le M1 → parseE s = (⟨#[]⟩, 7) → RunX Tryz.prog C 18 (.panicking panW) [⟨.fn (.func 199) ⟨[pt ba, pt be]⟩, #[]⟩] [(3, pt be), (2, pt ba)] M1 (rdB br s' :: errB be 0 :: strB ba t :: L) := by
    intro M1 s' t br hM1 hno
    refine runX_defer (args := [pt ba, pt be]) 16 (by simp) Tryz.func199 rfl rfl Tryz.call199 rfl rfl ?_
    intro a0 k0 q1 q2 q3
    refine run_seq ?_
    refine run_region ?_
    refine runL_recover rfl rfl rfl ?_
    repeat (first | refine yy ?_ | refine yx fun _ => ?_)
    refine runL_q (qt_neNil (v := .agg ⟨[]⟩) uAny rfl) rfl rfl rfl ?_
    repeat (first | refine yy ?_ | refine yx fun _ => ?_)
    refine run_cond rfl (fun _ => ?_) (fun h => ?_)
    rotate_left
    · cases h
    repeat (first | refine yy ?_ | refine yx fun _ => ?_ | refine runL_q (qt_assertCk tok rfl rfl rfl) rfl rfl rfl ?_)
    refine run_cond rfl (fun h => ?_) (fun _ => ?_)
    · cases h
    repeat (first | refine yy ?_ | refine yx fun _ => ?_)
    refine run_endX rfl ?_
    refine runX_dret Tryz.func199 rfl q1 q2 q3 ?_
    show RunX _ _ _ .returning _ _ _ _
    refine runX_ret hC (rs := [.cell 2 9, .cell 3 29]) rfl (rl tok rfl (rl tok rfl resN)) (fun _ h => (h.drop.drop.drop.drop).of_le hM1) ⟨by rw [hno]; rfl, rfl, rfl⟩
  refine runL_defer hro rfl rfl ?_
  repeat (first | refine yy ?_ | refine yx fun _ => ?_)
  rename_i br
  refine ec (wterm_ok 16 (by decide) 1 rfl _ _ br s hs) ?_ ?_
  rotate_left
  · rintro ch M1 _ ⟨hM1, hv⟩
    split at hv
    · cases hv.1
    rename_i hp
    obtain ⟨hv, s', rfl⟩ := hv
    cases hv
    exact runX_sub (hthrow M1 s' _ br hM1 (by rw [parseE, hp])) ⟨rfl, rfl, trivial⟩
  rintro v M1 _ ⟨hM1, hv⟩
  split at hv
  rotate_left
  · cases hv.1
  rename_i x hp
  obtain ⟨hv, rfl⟩ := hv
  cases hv
  repeat (first | refine yy ?_ | refine yx fun _ => ?_)
  refine mustR (b := x.2.toList == (⟨#[]⟩ : ByteArray).toList) (fun h => ?_) (fun h => ?_)
  rotate_left
  · rw [bytes_beq] at h
    exact runX_sub (hthrow M1 _ _ br hM1 (by rw [parseE, hp]; exact if_neg (by simpa using h))) ⟨rfl, rfl, trivial⟩
  rw [bytes_beq] at h
  have hpe : parseE s = (x.1, 0) := by rw [parseE, hp]; exact if_pos (by simpa using h)
  repeat (first | refine yy ?_ | refine yx fun _ => ?_)
  refine run_retX hro ?_
  refine runX_sub (σ' := [(3, pt be), (2, pt ba)]) ?_ ⟨rfl, rfl, trivial⟩
  refine runX_defer (args := [pt ba, pt be]) 16 (by simp) Tryz.func199 rfl rfl Tryz.call199 rfl rfl ?_
  intro a0 k0 q1 q2 q3
  refine run_seq ?_
  refine run_region ?_
  refine runL_recover0 rfl rfl rfl ?_
  repeat (first | refine yy ?_ | refine yx fun _ => ?_ | refine runL_q (qt_neNil0 uAny rfl) rfl rfl rfl ?_)
  refine run_cond rfl (fun h => ?_) (fun _ => ?_)
  · cases h
  repeat (first | refine yy ?_ | refine yx fun _ => ?_)
  refine run_endX rfl ?_
  refine runX_dret Tryz.func199 rfl q1 q2 q3 ?_
  show RunX _ _ _ .returning _ _ _ _
  refine runX_ret hC (rs := [.cell 2 9, .cell 3 29]) rfl (rl tok rfl (rl tok rfl resN)) (fun _ h => (h.drop.drop.drop).of_le hM1) ⟨by rw [hpe]; rfl, rfl, rfl⟩
end Go.Proofs.YtladcmfbkiogbaaGreatDoor
namespace Go.Proofs.YtladcmfbkiogbaaGreatDoor
open Go.Chi Go.Lib
abbrev erB (br : Nat) (nv : Value) (s : ByteArray) : Nat × Obj := (br, .cells ⟨[nv, .string s]⟩ 93 (0, 0))
def panT : List PanicEntry := [{ v := .iface 114 (.agg ⟨[]⟩), recovered := false }]
def umustK (b : Bool) (M : Mem) (L : HL) (en : Ending) (M' : Mem) (L' : HL) : Prop := M = M' ∧ L = L' ∧ if b = true then en = .returned (.tuple ⟨[]⟩) else en = .panicked panT
theorem umust_ok (M : Mem) (L : HL) (b : Bool) : TrE Tryz.prog 54 [.bool b] M L (umustK b M L) := by
  refine TrE.intro 6 Tryz.func54 rfl rfl Tryz.call54 rfl ?_; intro C hC hro
  repeat (first | refine yy ?_ | refine yx fun _ => ?_)
  refine run_cond rfl (fun h => ?_) (fun h => ?_)
  · have h0 : b = false := by simpa using h
    subst h0
    repeat (first | refine yy ?_ | refine yx fun _ => ?_ | refine runL_q (qt_makeIface tok rfl rfl) rfl rfl rfl ?_)
    refine runL_panic hro rfl ?_
    exact runX_pan hC (fun _ h => h) ⟨rfl, rfl, rfl⟩
  · have h0 : b = true := by simpa using h
    subst h0
    repeat (first | refine yy ?_ | refine yx fun _ => ?_)
    refine run_endX hro ?_
    exact runX_ret hC (rs := []) rfl (vs := []) trivial (fun _ h => h) ⟨rfl, rfl, rfl⟩
theorem umR {C : Cx} {n : Nat} {ops : Array Oper} {l : List Oper} {k : List Item} {ds : List Deferred} {σ : Env} {δ : Den} {M : Mem} {L : HL} {b : Bool} {d : Nat} {ty : TypeId} {pos : String} {aft : Array Edge} {args : Array Operand} {tys : Array TypeId}
    (h : b = true → RunL Tryz.prog C n ops l k ds ((d, .tuple ⟨[]⟩) :: σ) δ M L) (hp : b = false → RunX Tryz.prog C n (.panicking panT) ds σ M L) (ha : evs σ δ [] args.toList = some [.bool b] := by exact rfl) (hd : Nat.blt d n = true := by exact rfl) (hn : lkd δ d = none := by exact rfl) (hu : unNamed δ d = true := by exact rfl) :
    RunL Tryz.prog C n ops (⟨some d, .call ⟨.value (.func 54), args, tys⟩, ty, pos, aft, none⟩ :: l) k ds σ δ M L := by
  refine ec (umust_ok M L b) ?_ ?_ ha hd hn hu
  · rintro v _ _ ⟨rfl, rfl, hv⟩
    cases b with
    | false => cases hv
    | true => cases hv; exact h rfl
  · rintro ch _ _ ⟨rfl, rfl, hv⟩
    cases b with
    | false => cases hv; exact hp rfl
    | true => cases hv
def erK {α : Type} (br : Nat) (nv : Value) (M : Mem) (L : HL) (o : Option (α × ByteArray)) (f : α → Value) (en : Ending) (M' : Mem) (L' : HL) : Prop :=
  M = M' ∧ match o with
    | some x => en = .returned (f x.1) ∧ L' = erB br nv x.2 :: L
    | none => en = .panicked panT ∧ ∃ s', L' = erB br nv s' :: L
theorem erR {α : Type} {br : Nat} {nv : Value} {C : Cx} {n : Nat} {ops : Array Oper} {l : List Oper} {k : List Item} {ds : List Deferred} {σ : Env} {δ : Den} {M : Mem} {L L0 : HL} {o : Option (α × ByteArray)} {f : α → Value} {g : FuncId} {vs : List Value} {d : Nat} {ty : TypeId} {pos : String} {aft : Array Edge} {args : Array Operand} {tys : Array TypeId}
    (ht : TrE Tryz.prog g vs M L (erK br nv M L0 o f)) (h : ∀ x, o = some x → RunL Tryz.prog C n ops l k ds ((d, f x.1) :: σ) δ M (erB br nv x.2 :: L0)) (hp : o = none → ∀ s', RunX Tryz.prog C n (.panicking panT) ds σ M (erB br nv s' :: L0)) (ha : evs σ δ [] args.toList = some vs := by exact rfl) (hd : Nat.blt d n = true := by exact rfl) (hn : lkd δ d = none := by exact rfl) (hu : unNamed δ d = true := by exact rfl) :
    RunL Tryz.prog C n ops (⟨some d, .call ⟨.value (.func g), args, tys⟩, ty, pos, aft, none⟩ :: l) k ds σ δ M L := by
  refine ec ht ?_ ?_ ha hd hn hu
  · rintro v _ _ ⟨rfl, hv⟩
    cases o with
    | none => cases hv.1
    | some x => obtain ⟨hv, rfl⟩ := hv; cases hv; exact h x rfl
  · rintro ch _ _ ⟨rfl, hv⟩
    cases o with
    | none => obtain ⟨hv, s', rfl⟩ := hv; cases hv; exact hp rfl s'
    | some x => cases hv.1
theorem hasPre_ok (M : Mem) (L : HL) (s p : ByteArray) : TrQ Tryz.prog 126 [.string s, .string p] M L (.bool (preB s p)) := hasPrefix_ok M L s p
def hearO (s p : ByteArray) : Option (Unit × ByteArray) := if preB s p = true then some ((), nextR s p) else none
theorem hear_ok (M : Mem) (L : HL) (br : Nat) (nv : Value) (s p : ByteArray) : TrE Tryz.prog 92 [pt br, .string p] M (erB br nv s :: L) (erK br nv M L (hearO s p) fun _ => .tuple ⟨[]⟩) := by
  refine TrE.intro 21 Tryz.func92 rfl rfl Tryz.call92 rfl ?_; intro C hC hro
  repeat (first | refine zc ?_ | refine vq ?_)
  refine qc (hasPre_ok _ _ s p) ?_
  refine umR (b := preB s p) (fun h => ?_) (fun h => ?_)
  · have hz := pre_size h
    repeat (first | refine yy ?_ | refine yx fun _ => ?_)
    refine run_endX hro ?_
    exact runX_ret hC (rs := []) rfl (vs := []) trivial (fun _ h => h) ⟨rfl, by rw [hearO, if_pos h, nextR, if_pos h]; exact ⟨rfl, rfl⟩⟩
  · exact runX_pan hC (fun _ h => h) ⟨rfl, by rw [hearO, if_neg (by rw [h]; decide)]; exact ⟨rfl, s, rfl⟩⟩
theorem comes_ok (M : Mem) (L : HL) (br : Nat) (nv : Value) (s p : ByteArray) : Tr Tryz.prog 96 [pt br, .string p] M (erB br nv s :: L) (fun v M' L' => M = M' ∧ v = .bool (preB s p) ∧ L' = erB br nv (nextR s p) :: L) := by
  refine Tr.intro 17 Tryz.func96 rfl rfl Tryz.call96 rfl ?_; intro C hC hro
  repeat (first | refine yy ?_ | refine yx fun _ => ?_ | refine qc (hasPre_ok _ _ s p) ?_)
  refine run_cond (t := preB s p) rfl (fun h => ?_) (fun h => ?_)
  · repeat (first | refine yy ?_ | refine yx fun _ => ?_)
    refine erR (hear_ok _ _ br nv s p) (fun x hx => ?_) (fun hx => absurd hx (by rw [hearO, if_pos h]; simp))
    rw [hearO, if_pos h] at hx
    cases hx
    repeat (first | refine yy ?_ | refine yx fun _ => ?_)
    exact run_ret hC (rs := [.tmp 4]) rfl (resT rfl resN) (fun _ h => h) ⟨rfl, rfl, rfl⟩
  · repeat (first | refine yy ?_ | refine yx fun _ => ?_)
    exact run_ret hC (rs := [.tmp 4]) rfl (resT rfl resN) (fun _ h => h) ⟨rfl, rfl, by rw [nextF h]⟩
def wordN (s z : ByteArray) : Nat := whileN s (noQ z)
def wordO (s z : ByteArray) : ByteArray × ByteArray := (s.extract 0 (wordN s z), s.extract (wordN s z) s.size)
theorem word_ok (M : Mem) (L : HL) (br : Nat) (nv : Value) (s z : ByteArray) (hs : s.size < 1000000) (h1 : 1 ≤ z.size) (h100 : z.size < 100) (h : Signs z) : Tr Tryz.prog 94 [pt br, .string z] M (erB br nv s :: L) (fun v M' L' => M = M' ∧ v = .string (wordO s z).1 ∧ L' = erB br nv (wordO s z).2 :: L) := by
  have hix := indexAny_whF (s := s) h
  have hle := while_le s (noQ z)
  have hi := indexAny_ok M (erB br nv s :: L) s z hs h1 h100 h
  rw [hix] at hi
  refine Tr.intro 36 Tryz.func94 rfl rfl Tryz.call94 rfl ?_; intro C hC hro
  repeat (first | refine yy ?_ | refine yx fun _ => ?_ | refine qc hi ?_)
  by_cases hlt : whileN s (noQ z) < s.size
  · rw [if_pos hlt]
    repeat (first | refine yy ?_ | refine yx fun _ => ?_)
    refine run_cond rfl (fun h2 => by have := of_decide_eq_true h2; omega) (fun _ => ?_)
    repeat (first | refine yy ?_ | refine yx fun _ => ?_)
    exact run_ret hC (rs := [.tmp 4]) rfl (resT rfl resN) (fun _ h => h) ⟨rfl, rfl, rfl⟩
  · rw [if_neg hlt]
    have he : whileN s (noQ z) = s.size := by omega
    repeat (first | refine yy ?_ | refine yx fun _ => ?_)
    refine run_cond rfl (fun _ => ?_) (fun h2 => by cases h2)
    repeat (first | refine yy ?_ | refine yx fun _ => ?_)
    exact run_ret hC (rs := [.tmp 4]) rfl (resT rfl resN) (fun _ h => h) ⟨rfl, by rw [wordO, wordN, he]; rfl, by rw [wordO, wordN, he]; rfl⟩
end Go.Proofs.YtladcmfbkiogbaaGreatDoor
namespace Go.Chi
section
variable {P : Program} {T : TT} {ro : Option Nat} {σ : Env} {δ : Den} {cur : Path} {M : Mem} {L : HL} {d : Option Nat} {ty : TypeId} {pos : String} {aft : Array Edge} {g : Option (Nat × Bool)} {v : Value}
theorem qt_eqNil {s t u : TypeId} {x : Operand} {ms : Array (String × TypeId)} (hu : P.underlying s = some (.interface ms)) (hx : ev σ δ cur x = some (.iface t v)) :
    Qt P ro ⟨d, .binOp .eql s x (.const .nilIface) u, ty, pos, aft, g⟩ σ δ cur M L (.bool false) :=
  qt_of_run (semAt_of (by intro c e; cases e)) fun a w hs hcur hp => by
    have hy : a.eval (.const .nilIface) = .nilIface := rfl
    simp [execOp, eqGuard, binOp, ev_sound hs hcur hx, hy, eq_nil hu]
theorem qt_eqNil0 {s u : TypeId} {x : Operand} {ms : Array (String × TypeId)} (hu : P.underlying s = some (.interface ms)) (hx : ev σ δ cur x = some .nilIface) :
    Qt P ro ⟨d, .binOp .eql s x (.const .nilIface) u, ty, pos, aft, g⟩ σ δ cur M L (.bool true) :=
  qt_of_run (semAt_of (by intro c e; cases e)) fun a w hs hcur hp => by
    have hy : a.eval (.const .nilIface) = .nilIface := rfl
    simp [execOp, eqGuard, binOp, ev_sound hs hcur hx, hy, eq_nil0 hu]
end
end Go.Chi
namespace Go.Proofs.YtladcmfbkiogbaaGreatDoor
open Go.Chi Go.Lib
def sgOrg : ByteArray := ⟨#[32, 58, 59, 47, 43]⟩
def sgNum : ByteArray := ⟨#[32, 47, 43]⟩
def sgSp : ByteArray := ⟨#[32]⟩
theorem sg_ix (z : ByteArray) (h : ∀ n : Fin 256, decide (firstIdx z n.val.toUInt8 ≥ 0) = z.data.toList.contains n.val.toUInt8) (b : UInt8) : decide (firstIdx z b ≥ 0) = z.data.toList.contains b := by
  have := h ⟨b.toNat, b.toNat_lt⟩
  simpa only [Nat.toUInt8_eq, UInt8.ofNat_toNat] using this
theorem sgOrg_ok : Signs sgOrg := ⟨by decide +kernel, sg_ix _ (by decide +kernel)⟩
theorem sgNum_ok : Signs sgNum := ⟨by decide +kernel, sg_ix _ (by decide +kernel)⟩
theorem sgSp_ok : Signs sgSp := ⟨by decide +kernel, sg_ix _ (by decide +kernel)⟩
def orgO (names : List ByteArray) (s : ByteArray) : Option (Nat × ByteArray) :=
  if ixN (wordO s sgOrg).1 names < names.length then some (ixN (wordO s sgOrg).1 names, (wordO s sgOrg).2) else none
theorem org_ok (M : Mem) (L : HL) (br : Nat) (S : SStr) (hS : StOk M S) (s : ByteArray) (hs : s.size < 1000000) : TrE Tryz.prog 93 [pt br] M (erB br S.v s :: L) (erK br S.v M L (orgO S.xs s) fun k => iv k) := by
  have hid := TrQ.lend (L := erB br S.v (wordO s sgOrg).2 :: L) (fun w => Tryz.call127 _ w) fun M' hm _ => sliceIndex_ok M' [] S (hS.le hm) (wordO s sgOrg).1
  refine TrE.intro 15 Tryz.func93 rfl rfl Tryz.call93 rfl ?_; intro C hC hro
  repeat (first | refine yy ?_ | refine dd ?_ | refine yd ?_ | refine yx fun _ => ?_)
  (refine poc (word_ok _ _ br _ s sgOrg hs (by decide) (by decide) sgOrg_ok) ?_; rintro _ M' _ ⟨hM', rfl, rfl⟩; subst hM'; refine ⟨by (repeat (first | exact trivial | refine And.intro (pend_q rfl rfl rfl (by first | refine qt_pev tok rfl | refine ql tok rfl | refine qt_indexN tok rfl rfl rfl rfl (fun hy => by first | assumption | omega | (have h0 := hy.1; simp at h0; omega)) | refine qt_index tok rfl rfl rfl rfl (fun _ => by decide) | refine qt_ldM tok rfl (by first | assumption | exact Cells.le (by assumption) (by assumption)) rfl | refine qt_ldM0 tok rfl (by first | assumption | exact Cells.le (by assumption) (by assumption)) rfl | refine qt_strIndex tok rfl rfl rfl (fun _ => by assumption) | refine qt_strIndex (n := 0) tok rfl rfl rfl (fun _ => by assumption) | refine qt_strLo tok rfl rfl rfl (fun hy => by first | assumption | omega | (have h0 := hy.1; simp at h0; omega)) | refine qt_strHi tok rfl rfl rfl (fun hy => by first | assumption | omega | (have h0 := hy.1; simp at h0; omega)) | refine qt_strMid tok rfl rfl rfl rfl (fun hy => by first | assumption | omega | (have h0 := hy.1; simp at h0; omega)) | refine qt_concat rfl rfl (by first | assumption | omega | (simp only [app_size] at *; omega)) | refine qt_shr rfl rfl (fun _ => by decide) | refine qt_makeIfaceC tok rfl rfl rfl | refine qt_assertC tok rfl rfl rfl | refine qt_assertCk tok rfl rfl rfl)) ?_)), ?_⟩)
  repeat (first | refine yy ?_ | refine dd ?_ | refine yd ?_ | refine yx fun _ => ?_)
  refine pc hid ?_
  repeat (first | refine yy ?_ | refine dd ?_ | refine yd ?_ | refine yx fun _ => ?_)
  refine umR (b := decide (ixI (wordO s sgOrg).1 S.xs ≥ 0)) (fun h => ?_) (fun h => ?_)
  · have h0 : ixN (wordO s sgOrg).1 S.xs < S.xs.length := by
      have := of_decide_eq_true h
      unfold ixI at this
      split at this
      · assumption
      · omega
    have e : ixI (wordO s sgOrg).1 S.xs = (ixN (wordO s sgOrg).1 S.xs : Int) := if_pos h0
    repeat (first | refine yy ?_ | refine yx fun _ => ?_)
    refine run_retX hro ?_
    exact runX_ret hC (rs := [.tmp 2]) rfl (resT rfl resN) (fun _ h => h) ⟨rfl, by rw [orgO, if_pos h0]; exact ⟨by rw [e]; rfl, rfl⟩⟩
  · have h0 : ¬ ixN (wordO s sgOrg).1 S.xs < S.xs.length := by
      intro h0
      have := of_decide_eq_false h
      rw [ixI, if_pos h0] at this; omega
    exact runX_pan hC (fun _ h => h) ⟨rfl, by rw [orgO, if_neg h0]; exact ⟨rfl, _, rfl⟩⟩
def numL (most : Nat) (w : ByteArray) : Option Nat := match atoiAll w.data.toList with
  | .ok n => if 0 ≤ n ∧ n ≤ (most : Int) ∧ bs (decDigits n.toNat) = w then some n.toNat else none
  | _ => none
def numO (most : Nat) (s : ByteArray) : Option (Nat × ByteArray) := (numL most (wordO s sgNum).1).map fun n => (n, (wordO s sgNum).2)
theorem wordO_sz (s z : ByteArray) : (wordO s z).1.size ≤ s.size ∧ (wordO s z).2.size ≤ s.size := by
  constructor
  · show (s.extract _ _).size ≤ _; rw [ByteArray.size_extract]; omega
  · show (s.extract _ _).size ≤ _; rw [ByteArray.size_extract]; omega
theorem uErr : ∃ ms, Tryz.prog.underlying 102 = some (.interface ms) := ⟨#[("Error", 78)], by kernel_rfl⟩
set_option maxHeartbeats 4000000 in
theorem num_ok38 (M : Mem) (L : HL) (hG : G38 M) (br : Nat) (nv : Value) (s : ByteArray) (hs : s.size < 1000000) (most : Nat) (hm : most < 4611686018427387904) : TrE Tryz.prog 91 [pt br, iv most] M (erB br nv s :: L) (erK br nv M L (numO most s) fun k => iv k) := by
  have hz := (wordO_sz s sgNum).1
  refine TrE.intro 34 Tryz.func91 rfl rfl Tryz.call91 rfl ?_; intro C hC hro
  repeat (first | refine yy ?_ | refine yx fun _ => ?_)
  refine oc (word_ok _ _ br nv s sgNum hs (by decide) (by decide) sgNum_ok) ?_
  rintro _ M' _ ⟨hM', rfl, rfl⟩
  subst hM'
  generalize hw : (wordO s sgNum).1 = w at *
  generalize hr : (wordO s sgNum).2 = r at *
  repeat (first | refine yy ?_ | refine yx fun _ => ?_)
  refine oc (atoi_ok _ _ w (by omega) hG) ?_
  rintro v M' L' ⟨hM', rfl, hv⟩
  subst hM'
  cases ha : atoiAll w.data.toList with
  | ok n =>
    rw [ha] at hv
    have hv : v = .tuple ⟨[.int .i64 n, .nilIface]⟩ := hv
    subst hv
    repeat (first | refine yy ?_ | refine yx fun _ => ?_)
    refine vq ?_ (qt_eqNil0 uErr.choose_spec rfl)
    repeat (first | refine yy ?_ | refine yx fun _ => ?_)
    by_cases hin : 0 ≤ n ∧ n ≤ (most : Int)
    · obtain ⟨m, rfl⟩ : ∃ m : Nat, n = (m : Int) := ⟨n.toNat, by omega⟩
      refine runL_as 26 (.bool true) rfl (by congr 1; simp; omega) ?_
      refine gc (itoa_ok _ _ m (by omega) hG) ?_
      repeat (first | refine yy ?_ | refine yx fun _ => ?_)
      refine umR (b := (bs (decDigits m)).toList == w.toList) (fun h => ?_) (fun h => ?_)
      · rw [bytes_beq] at h
        have e : numO most s = some (m, r) := by rw [numO, hw, hr, numL, ha]; simp only; rw [if_pos ⟨hin.1, hin.2, by simpa using h⟩]; rfl
        repeat (first | refine yy ?_ | refine yx fun _ => ?_)
        refine run_retX hro ?_
        exact runX_ret hC (rs := [.tmp 4]) rfl (resT rfl resN) (fun _ h => h) ⟨rfl, by rw [e]; exact ⟨rfl, rfl⟩⟩
      · rw [bytes_beq] at h
        have e : numO most s = none := by rw [numO, hw, numL, ha]; simp only; rw [if_neg (fun hc => by have := hc.2.2; simp at this h; exact h this)]; rfl
        exact runX_pan hC (fun _ h => h) ⟨rfl, by rw [e]; exact ⟨rfl, _, rfl⟩⟩
    · refine runL_as 26 (.bool false) rfl (by congr 1; simp; omega) ?_
      refine vg ?_ (hst := qt_dead (s := 26) (b := true) (b' := false) (v := .string ⟨#[]⟩) rfl (by simp) (by decide))
      repeat (first | refine yy ?_ | refine yx fun _ => ?_)
      refine umR (b := false) (fun h => by cases h) (fun _ => ?_)
      have e : numO most s = none := by rw [numO, hw, numL, ha]; simp only; rw [if_neg (fun hc => hin ⟨hc.1, hc.2.1⟩)]; rfl
      exact runX_pan hC (fun _ h => h) ⟨rfl, by rw [e]; exact ⟨rfl, _, rfl⟩⟩
  | _ =>
    rw [ha] at hv
    obtain ⟨n, t, q, rfl⟩ := hv
    repeat (first | refine yy ?_ | refine yx fun _ => ?_)
    refine vq ?_ (qt_eqNil uErr.choose_spec rfl)
    repeat (first | refine yy ?_ | refine yx fun _ => ?_)
    refine vg ?_ (hst := qt_dead (s := 26) (b := true) (b' := false) (v := .string ⟨#[]⟩) rfl (by simp) (by decide))
    repeat (first | refine yy ?_ | refine yx fun _ => ?_)
    refine umR (b := false) (fun h => by cases h) (fun _ => ?_)
    exact runX_pan hC (fun _ h => h) ⟨rfl, by rw [numO, hw, numL, ha]; exact ⟨rfl, _, rfl⟩⟩
end Go.Proofs.YtladcmfbkiogbaaGreatDoor
namespace Go.Proofs.YtladcmfbkiogbaaGreatDoor
open Go.Chi Go.Lib
def slB : ByteArray := ⟨#[47]⟩
def txnO (names : List ByteArray) (s : ByteArray) : Option (Tx × ByteArray) :=
  (orgO names s).bind fun x => (hearO x.2 slB).bind fun y => (numO 255 y.2).bind fun z => (hearO z.2 slB).bind fun u => (numO 65535 u.2).bind fun v =>
    if mayTx ⟨x.1, z.1, v.1⟩ = true then some (⟨x.1, z.1, v.1⟩, v.2) else none
theorem orgO_sz {names : List ByteArray} {s : ByteArray} {x : Nat × ByteArray} (h : orgO names s = some x) : x.2.size ≤ s.size := by
  unfold orgO at h
  split at h
  · cases h; exact (wordO_sz s sgOrg).2
  · cases h
theorem hearO_sz {s p : ByteArray} {x : Unit × ByteArray} (h : hearO s p = some x) : x.2.size ≤ s.size := by
  unfold hearO at h
  split at h
  · cases h; exact next_le s p
  · cases h
theorem numO_sz {m : Nat} {s : ByteArray} {x : Nat × ByteArray} (h : numO m s = some x) : x.2.size ≤ s.size := by
  unfold numO at h
  cases hn : numL m (wordO s sgNum).1 with
  | none => rw [hn] at h; cases h
  | some k => rw [hn] at h; cases h; exact (wordO_sz s sgNum).2
set_option maxHeartbeats 8000000 in
theorem txn_ok (M : Mem) (L : HL) (hG : G38 M) (br : Nat) (S : SStr) (hS : StOk M S) (s : ByteArray) (hs : s.size < 1000000) : TrE Tryz.prog 97 [pt br] M (erB br S.v s :: L) (erK br S.v M L (txnO S.xs s) fun t => .agg ⟨txC t⟩) := by
  obtain ⟨R, hR⟩ : ∃ R, txnO S.xs s = R := ⟨_, rfl⟩
  rw [hR]
  rw [txnO] at hR
  refine TrE.intro 20 Tryz.func97 rfl rfl Tryz.call97 rfl ?_; intro C hC hro
  refine run_seq ?_
  refine run_region ?_
  refine yx fun tb => ?_
  refine runL_nil ?_
  refine run_mem (fun _ h => h.perm (List.Perm.swap _ _ _)) ?_
  repeat (first | refine yy ?_ | refine yx fun _ => ?_)
  refine erR (org_ok _ _ br S hS s hs) (fun x hx => ?_) (fun hx s' => ?_)
  rotate_left
  · rw [hx] at hR
    exact runX_pan hC (fun _ h => h.perm (List.Perm.swap _ _ _) |>.drop) ⟨rfl, by rw [← hR]; exact ⟨rfl, s', rfl⟩⟩
  rw [hx, Option.bind_some] at hR
  have hzx := orgO_sz hx
  repeat (first | refine yy ?_ | refine yx fun _ => ?_)
  refine erR (hear_ok _ _ br _ x.2 slB) (fun y hy => ?_) (fun hy s' => ?_)
  rotate_left
  · rw [hy] at hR
    exact runX_pan hC (fun _ h => h.perm (List.Perm.swap _ _ _) |>.drop) ⟨rfl, by rw [← hR]; exact ⟨rfl, s', rfl⟩⟩
  rw [hy, Option.bind_some] at hR
  have hzy := hearO_sz hy
  repeat (first | refine yy ?_ | refine yx fun _ => ?_)
  refine erR (num_ok38 _ _ hG br _ y.2 (by omega) 255 (by decide)) (fun z hz => ?_) (fun hz s' => ?_)
  rotate_left
  · rw [hz] at hR
    exact runX_pan hC (fun _ h => h.perm (List.Perm.swap _ _ _) |>.drop) ⟨rfl, by rw [← hR]; exact ⟨rfl, s', rfl⟩⟩
  rw [hz, Option.bind_some] at hR
  have hzz := numO_sz hz
  repeat (first | refine yy ?_ | refine yx fun _ => ?_)
  refine erR (hear_ok _ _ br _ z.2 slB) (fun u hu => ?_) (fun hu s' => ?_)
  rotate_left
  · rw [hu] at hR
    exact runX_pan hC (fun _ h => h.perm (List.Perm.swap _ _ _) |>.drop) ⟨rfl, by rw [← hR]; exact ⟨rfl, s', rfl⟩⟩
  rw [hu, Option.bind_some] at hR
  have hzu := hearO_sz hu
  repeat (first | refine yy ?_ | refine yx fun _ => ?_)
  refine erR (num_ok38 _ _ hG br _ u.2 (by omega) 65535 (by decide)) (fun v hv => ?_) (fun hv s' => ?_)
  rotate_left
  · rw [hv] at hR
    exact runX_pan hC (fun _ h => h.perm (List.Perm.swap _ _ _) |>.drop) ⟨rfl, by rw [← hR]; exact ⟨rfl, s', rfl⟩⟩
  rw [hv, Option.bind_some] at hR
  have hzv := numO_sz hv
  repeat (first | refine yy ?_ | refine yx fun _ => ?_)
  refine qc (mayTx_ok _ _ ⟨x.1, z.1, v.1⟩) ?_
  refine umR (b := mayTx ⟨x.1, z.1, v.1⟩) (fun h => ?_) (fun h => ?_)
  rotate_left
  · rw [if_neg (by rw [h]; decide)] at hR
    exact runX_pan hC (fun _ h => h.perm (List.Perm.swap _ _ _) |>.drop) ⟨rfl, by rw [← hR]; exact ⟨rfl, _, rfl⟩⟩
  rw [if_pos h] at hR
  repeat (first | refine yy ?_ | refine yx fun _ => ?_)
  refine run_retX hro ?_
  refine runX_ret hC (rs := [.cell 2 25]) rfl (rl tok rfl resN) (fun _ h => h.perm (List.Perm.swap _ _ _) |>.drop) ⟨rfl, by rw [← hR]; exact ⟨rfl, rfl⟩⟩
end Go.Proofs.YtladcmfbkiogbaaGreatDoor
namespace Go.Proofs.YtladcmfbkiogbaaGreatDoor
open Go.Chi Go.Lib
def scanF (sg : List UInt8) : List UInt8 → Bool → Nat
  | [], _ => 0
  | b :: l, q => if (q || !hasPrefix (b :: l) sg) = true then scanF sg l (if b = 34 then !q else q) + 1 else 0
def termO (s sg : ByteArray) : Option (ByteArray × ByteArray) :=
  if (parseE (s.extract 0 (scanF sg.data.toList s.data.toList false))).2 = 0 then some ((parseE (s.extract 0 (scanF sg.data.toList s.data.toList false))).1, s.extract (scanF sg.data.toList s.data.toList false) s.size) else none
set_option maxHeartbeats 8000000 in
theorem eterm_ok (M : Mem) (L : HL) (br : Nat) (nv : Value) (s sg : ByteArray) (hs : s.size < 1000000) : TrE Tryz.prog 129 [pt br, .string sg] M (erB br nv s :: L) (erK br nv M L (termO s sg) fun t => .string t) := by
  have hsz := ba_len s
  refine TrE.intro 64 Tryz.func129 rfl rfl Tryz.call129 rfl ?_; intro C hC hro
  repeat (first | refine yy ?_ | refine yx fun _ => ?_)
  refine run_loopN (fun j σ1 M1 L1 => j ≤ s.size ∧ M = M1 ∧ L1 = erB br nv s :: L ∧ ∃ q, scanF sg.data.toList s.data.toList false = j + scanF sg.data.toList (s.data.toList.drop j) q ∧ σ1 = [(5, iv j), (6, .bool q), (0, pt br), (1, .string sg)]) s.size [(5, iv 0), (6, .bool false), (0, pt br), (1, .string sg)] ?_ ⟨Nat.zero_le _, rfl, rfl, false, by rw [List.drop_zero, Nat.zero_add], rfl⟩ (fun j _ _ _ h => h.1) ?_
  · exact ⟨rfl, rfl, rfl, rfl, trivial⟩
  rintro j _ _ _ ⟨hj, rfl, rfl, q, hscan, rfl⟩ hnext
  repeat (first | refine yy ?_ | refine yx fun _ => ?_)
  refine gc (hasPrefix_ok _ _ (s.extract j s.size) sg) ?_
  repeat (first | refine yy ?_ | refine yx fun _ => ?_)
  have hex : (s.extract j s.size).data.toList = s.data.toList.drop j := by rw [ba_extract, List.take_of_length_le (by omega)]
  rw [hex]
  refine run_cond (t := decide ((j : Int) < (s.size : Int)) && (q || !hasPrefix (s.data.toList.drop j) sg.data.toList)) rfl (fun h1 => ?_) (fun h1 => ?_)
  · simp only [Bool.and_eq_true, decide_eq_true_eq] at h1
    obtain ⟨hlt, hgo⟩ := h1
    have hlt : j < s.size := by omega
    obtain ⟨b, hb⟩ : ∃ b : UInt8, s[j]? = some b := ⟨_, getElem?_pos s j hlt⟩
    have hbl := (ba_get s j).symm.trans hb
    have hdr : s.data.toList.drop j = b :: s.data.toList.drop (j + 1) := by
      obtain ⟨hl, he⟩ := List.getElem?_eq_some_iff.1 hbl
      rw [← he]; exact (List.getElem_cons_drop (h := hl)).symm
    rw [hdr] at hgo hscan
    rw [scanF, if_pos hgo] at hscan
    repeat (first | refine yy ?_ | refine yx fun _ => ?_)
    refine run_cond (t := (b.toNat : Int) == 34) rfl (fun h2 => ?_) (fun h2 => ?_)
    · have h3 : b = 34 := by
        have := eq_of_beq h2
        exact UInt8.toNat_inj.1 (by show b.toNat = 34; omega)
      rw [if_pos h3] at hscan
      repeat (first | refine yy ?_ | refine yx fun _ => ?_)
      exact run_sub' (hnext _ _ _ ⟨hlt, rfl, rfl, _, by rw [hscan]; omega, rfl⟩) ⟨lk_succ rfl (by omega), rfl, rfl, rfl, trivial⟩
    · have h3 : b ≠ 34 := by rintro rfl; cases h2
      rw [if_neg h3] at hscan
      repeat (first | refine yy ?_ | refine yx fun _ => ?_)
      exact run_sub' (hnext _ _ _ ⟨hlt, rfl, rfl, _, by rw [hscan]; omega, rfl⟩) ⟨lk_succ rfl (by omega), rfl, rfl, rfl, trivial⟩
  · have hk : scanF sg.data.toList s.data.toList false = j := by
      rw [hscan]
      cases hd : s.data.toList.drop j with
      | nil => rfl
      | cons b l =>
        rw [hd] at h1
        have hlt : j < s.size := by
          have : (s.data.toList.drop j).length = l.length + 1 := by rw [hd]; rfl
          rw [List.length_drop] at this; omega
        rw [show decide ((j : Int) < (s.size : Int)) = true from decide_eq_true (by omega), Bool.true_and] at h1
        rw [scanF, if_neg (by rw [h1]; decide)]; rfl
    have hz : (s.extract 0 j).size < 1000000 := by rw [ByteArray.size_extract]; omega
    repeat (first | refine yy ?_ | refine yx fun _ => ?_)
    refine qc (sparse_ok _ _ (s.extract 0 j) hz) ?_
    repeat (first | refine yy ?_ | refine yx fun _ => ?_)
    refine umR (b := (parseE (s.extract 0 j)).2 == 0) (fun h => ?_) (fun h => ?_)
    rotate_left
    · exact runX_pan hC (fun _ h => h) ⟨rfl, by rw [termO, hk, if_neg (by simpa using h)]; exact ⟨rfl, _, rfl⟩⟩
    repeat (first | refine yy ?_ | refine yx fun _ => ?_)
    refine run_retX hro ?_
    exact runX_ret hC (rs := [.tmp 4]) rfl (resT rfl resN) (fun _ h => h) ⟨rfl, by rw [termO, hk, if_pos (by simpa using h)]; exact ⟨rfl, rfl⟩⟩
end Go.Proofs.YtladcmfbkiogbaaGreatDoor
namespace Go.Proofs.YtladcmfbkiogbaaGreatDoor
open Go.Chi
structure Sp where
  do_ : Int
  a : Int
  b : Int
  c : Int
  n : Int
  text : ByteArray
  list : List Int
structure Aa where
  do_ : Int
  org : Int
  auditor : Int
  n : Int
  gives : List Mb
  txn : Tx
  yes : Bool
  steps : List Sp
def tz : Tx := ⟨0, 0, 0⟩
def nmW (n : Int) : Bool := decide (0 ≤ n) && decide (n ≤ 2147483647)
structure SpP (x : Sp) : Prop where
  do_ : 1 ≤ x.do_ ∧ x.do_ ≤ 9
  a : nmW x.a = true
  b : nmW x.b = true
  c : nmW x.c = true
  n : nmW x.n = true
  text : x.text.size ≤ 1024
  len : x.list.length ≤ 32
  list : ∀ v ∈ x.list, nmW v = true
def GvP (g : Mb) : Prop := orgW g.org = true ∧ checkR g.digest = 0
inductive AcP : Aa → Prop
  | begin_ (o au : Int) (g : List Mb) : orgW o = true → orgW au = true → g.length ≤ 6 → (∀ x ∈ g, GvP x) → AcP ⟨1, o, au, 0, g, tz, false, []⟩
  | submit (o : Int) (t : Tx) (y : Bool) : orgW o = true → mayTx t = true → AcP ⟨2, o, 0, 0, [], t, y, []⟩
  | tick (o : Int) : orgW o = true → AcP ⟨3, o, 0, 0, [], tz, false, []⟩
  | deliver (n : Int) : nmW n = true → AcP ⟨4, 0, 0, n, [], tz, false, []⟩
  | inject (o : Int) (l : List Sp) : orgW o = true → l.length ≤ 64 → (∀ x ∈ l, SpP x) → AcP ⟨5, o, 0, 0, [], tz, false, l⟩
  | arm (o n : Int) : orgW o = true → nmW n = true → AcP ⟨6, o, 0, n, [], tz, false, []⟩
  | crash (o n : Int) : orgW o = true → nmW n = true → AcP ⟨7, o, 0, n, [], tz, false, []⟩
  | restart (o : Int) : orgW o = true → AcP ⟨8, o, 0, 0, [], tz, false, []⟩
  | exprt (o : Int) (t : Tx) : orgW o = true → mayTx t = true → AcP ⟨9, o, 0, 0, [], t, false, []⟩
  | present (o : Int) (l : List Sp) : orgW o = true → l.length ≤ 64 → (∀ x ∈ l, SpP x) → AcP ⟨10, o, 0, 0, [], tz, false, l⟩
end Go.Proofs.YtladcmfbkiogbaaGreatDoor
namespace Go.Chi
section
variable {P : Program} {ro : Option Nat} {σ : Env} {δ : Den} {cur : Path} {M : Mem} {L : HL} {od : Option Nat} {ty : TypeId} {pos : String} {aft : Array Edge} {g : Option (Nat × Bool)}
end
section
variable {P : Program} {C : Cx} {n : Nat} {k : List Item} {ds : List Deferred} {σ : Env} {δ : Den} {M : Mem} {L : HL} {ops : Array Oper} {D X : List Nat}
end
section
variable {P : Program} {T : TT} {ro : Option Nat} {σ : Env} {δ : Den} {cur : Path} {M : Mem} {L : HL} {d : Option Nat} {op : Op} {ty : TypeId} {pos : String} {aft : Array Edge} {g : Option (Nat × Bool)} {v : Value}
end
end Go.Chi
namespace Go.Proofs.YtladcmfbkiogbaaGreatDoor
open Go.Chi
set_option maxRecDepth 10000
def inC (n : Int) : List Value := [.int .i64 n]
structure SIn where
  a : Option Addr
  len : Nat
  cap : Nat
  xs : List Int
def SIn.v (s : SIn) : Value := .slice s.a s.len s.cap
def InOk (M : Mem) (s : SIn) : Prop := SlM M 1 s.a s.len (s.xs.map inC) ∧ s.len < 1000000
structure Sr where
  do_ : Int
  a : Int
  b : Int
  c : Int
  n : Int
  text : ByteArray
  list : SIn
def srC (x : Sr) : List Value := [.int .u8 x.do_, .int .i64 x.a, .int .i64 x.b, .int .i64 x.c, .int .i64 x.n, .string x.text, x.list.v]
def Sr.sp (x : Sr) : Sp := ⟨x.do_, x.a, x.b, x.c, x.n, x.text, x.list.xs⟩
structure SrOk (M : Mem) (x : Sr) : Prop where
  list : InOk M x.list
  text : x.text.size < 1099511627776
structure SSr where
  a : Option Addr
  len : Nat
  cap : Nat
  xs : List Sr
def SSr.v (s : SSr) : Value := .slice s.a s.len s.cap
structure SsOk (M : Mem) (s : SSr) : Prop where
  sl : SlM M 7 s.a s.len (s.xs.map srC)
  lt : s.len < 1000000
  each : ∀ x ∈ s.xs, SrOk M x
structure Ax where
  do_ : Int
  org : Int
  auditor : Int
  n : Int
  gives : SMb
  txn : Tx
  yes : Bool
  steps : SSr
def axC (x : Ax) : List Value := [.int .u8 x.do_, .int .i64 x.org, .int .i64 x.auditor, .int .i64 x.n, x.gives.v, .int .i64 x.txn.coord, .int .i64 x.txn.epoch, .int .i64 x.txn.seq, .bool x.yes, x.steps.v]
def Ax.aa (x : Ax) : Aa := ⟨x.do_, x.org, x.auditor, x.n, x.gives.xs, x.txn, x.yes, x.steps.xs.map Sr.sp⟩
structure AxOk (M : Mem) (x : Ax) : Prop where
  gives : MbOk M x.gives
  steps : SsOk M x.steps
  pay : ∀ m ∈ x.gives.xs, m.digest.size < 1099511627776
structure SAx where
  a : Option Addr
  len : Nat
  cap : Nat
  xs : List Ax
def SAx.v (s : SAx) : Value := .slice s.a s.len s.cap
structure SaOk (M : Mem) (s : SAx) : Prop where
  sl : SlM M 10 s.a s.len (s.xs.map axC)
  lt : s.len < 1000000
  each : ∀ x ∈ s.xs, AxOk M x
theorem InOk.le {M M' : Mem} {s : SIn} (hm : M.le M') (h : InOk M s) : InOk M' s := ⟨h.1.le hm, h.2⟩
theorem SrOk.le {M M' : Mem} {s : Sr} (hm : M.le M') (h : SrOk M s) : SrOk M' s := ⟨h.list.le hm, h.text⟩
theorem SsOk.le {M M' : Mem} {s : SSr} (hm : M.le M') (h : SsOk M s) : SsOk M' s := ⟨h.sl.le hm, h.lt, fun x hx => (h.each x hx).le hm⟩
theorem AxOk.le {M M' : Mem} {s : Ax} (hm : M.le M') (h : AxOk M s) : AxOk M' s := ⟨h.gives.le hm, h.steps.le hm, h.pay⟩
theorem SaOk.le {M M' : Mem} {s : SAx} (hm : M.le M') (h : SaOk M s) : SaOk M' s := ⟨h.sl.le hm, h.lt, fun x hx => (h.each x hx).le hm⟩
theorem InOk.len {M : Mem} {s : SIn} (h : InOk M s) : s.xs.length = s.len := by have := h.1.1; simpa using this
theorem SsOk.len {M : Mem} {s : SSr} (h : SsOk M s) : s.xs.length = s.len := by have := h.sl.1; simpa using this
theorem SaOk.len {M : Mem} {s : SAx} (h : SaOk M s) : s.xs.length = s.len := by have := h.sl.1; simpa using this
theorem SIn.at_ {M : Mem} {a : Option Addr} {len : Nat} {xs : List Int} (h : SlM M 1 a len (xs.map inC)) {j : Nat} (hj : j < len) : ∃ b off m, a = some ⟨b, off, none⟩ ∧ xs[j]? = some m ∧ Cells M [] b (off + j * 1) (inC m) := by
  obtain ⟨b, off, c, ha, hc, _, hcells⟩ := h.at_ hj
  obtain ⟨m, hm, rfl⟩ : ∃ m, xs[j]? = some m ∧ inC m = c := by simpa using hc
  exact ⟨b, off, m, ha, hm, hcells⟩
theorem SSr.at_ {M : Mem} {a : Option Addr} {len : Nat} {xs : List Sr} (h : SlM M 7 a len (xs.map srC)) {j : Nat} (hj : j < len) : ∃ b off m, a = some ⟨b, off, none⟩ ∧ xs[j]? = some m ∧ Cells M [] b (off + j * 7) (srC m) := by
  obtain ⟨b, off, c, ha, hc, _, hcells⟩ := h.at_ hj
  obtain ⟨m, hm, rfl⟩ : ∃ m, xs[j]? = some m ∧ srC m = c := by simpa using hc
  exact ⟨b, off, m, ha, hm, hcells⟩
theorem SAx.at_ {M : Mem} {a : Option Addr} {len : Nat} {xs : List Ax} (h : SlM M 10 a len (xs.map axC)) {j : Nat} (hj : j < len) : ∃ b off m, a = some ⟨b, off, none⟩ ∧ xs[j]? = some m ∧ Cells M [] b (off + j * 10) (axC m) := by
  obtain ⟨b, off, c, ha, hc, _, hcells⟩ := h.at_ hj
  obtain ⟨m, hm, rfl⟩ : ∃ m, xs[j]? = some m ∧ axC m = c := by simpa using hc
  exact ⟨b, off, m, ha, hm, hcells⟩
theorem allS {α : Type} {xs : List α} {j : Nat} {x : α} (p : α → Bool) (hx : xs[j]? = some x) : (xs.take (j + 1)).all p = ((xs.take j).all p && p x) := by rw [take_snoc hx, List.all_append]; simp
theorem sorg_ok (M : Mem) (L : HL) (n : Int) : TrQ Tryz.prog 64 [.int .i64 n] M L (.bool (orgW n)) := by
  refine Tr.intro 9 Tryz.func64 rfl rfl Tryz.call64 rfl ?_; intro C hC hro
  repeat (first | refine zz ?_ | refine zx fun _ => ?_)
  exact run_ret hC (rs := [.tmp 2]) rfl (resT rfl resN) (fun _ h => h) ⟨rfl, rfl, rfl⟩
theorem nmW_not {m : Int} {t : Bool} (h : (decide (m < 0) || decide (m > 2147483647)) = t) : nmW m = !t := by
  subst h
  unfold nmW
  rw [Bool.eq_iff_iff]
  simp only [Bool.and_eq_true, decide_eq_true_eq, Bool.not_eq_true', Bool.or_eq_false_iff, decide_eq_false_iff_not]
  omega
set_option maxHeartbeats 4000000 in
theorem snum_ok (M : Mem) (L : HL) (s : SIn) (hs : InOk M s) : TrQ Tryz.prog 65 [s.v] M L (.bool (s.xs.all nmW)) := by
  have hx1 := hs.len
  have hlt6 := hs.2
  refine Tr.intro 18 Tryz.func65 rfl rfl Tryz.call65 rfl ?_; intro C hC hro
  repeat (first | refine zz ?_ | refine zx fun _ => ?_)
  refine run_loopN (fun j σ1 M1 L1 => j ≤ s.len ∧ M = M1 ∧ L = L1 ∧ (s.xs.take j).all nmW = true ∧ σ1 = [(7, .int .i64 (j : Int)), (6, .int .i64 (s.len : Int)), (5, s.v)]) s.len [(7, .int .i64 ((0 : Nat) : Int)), (6, .int .i64 (s.len : Int)), (5, s.v)] ?_ ⟨Nat.zero_le _, rfl, rfl, rfl, rfl⟩ (fun j _ _ _ h => h.1) ?_
  · exact ⟨rfl, rfl, rfl, trivial⟩
  rintro j _ _ _ ⟨hj, rfl, rfl, hpre, rfl⟩ hnext
  repeat (first | refine zz ?_ | refine zx fun _ => ?_)
  refine run_cond rfl (fun h => ?_) (fun h => ?_)
  · have hlt : j < s.len := by simpa using h
    obtain ⟨b, off, m, hma, hm, hc⟩ := SIn.at_ hs.1 hlt
    have hv : s.v = .slice (some ⟨b, off, none⟩) s.len s.cap := by rw [← hma]; rfl
    refine run_as 5 (.slice (some ⟨b, off, none⟩) s.len s.cap) rfl hv ?_
    repeat (first | refine zz ?_ | refine zx fun _ => ?_ | refine runL_q (qt_indexN tok rfl rfl rfl rfl (fun _ => by omega)) rfl rfl rfl ?_ | refine runL_g rfl rfl (qt_indexN tok rfl rfl rfl rfl (fun _ => by omega)) rfl rfl rfl rfl rfl ?_ | refine runL_q (qt_ldM tok rfl hc rfl) rfl rfl rfl ?_ | refine runL_g rfl rfl (qt_ldM tok rfl hc rfl) rfl rfl rfl rfl rfl ?_ | refine runL_q (qt_ldM0 tok rfl hc rfl) rfl rfl rfl ?_ | refine runL_g rfl rfl (qt_ldM0 tok rfl hc rfl) rfl rfl rfl rfl rfl ?_)
    refine run_cond rfl (fun h => ?_) (fun h => ?_)
    · have hb := nmW_not h
      repeat (first | refine zz ?_ | refine zx fun _ => ?_)
      refine run_ret hC (rs := [.tmp 2]) rfl (resT rfl resN) (fun _ h => h) ⟨?_, rfl, rfl⟩
      have : s.xs.all nmW = false := by
        rw [List.all_eq_false]
        exact ⟨m, List.mem_of_getElem? hm, by rw [hb]; decide⟩
      rw [this]; rfl
    · have hb := nmW_not h
      repeat (first | refine zz ?_ | refine zx fun _ => ?_)
      exact run_sub' (hnext _ _ _ ⟨hlt, rfl, rfl, by rw [allS _ hm, hpre, hb]; rfl, rfl⟩) ⟨lk_succ rfl (by omega), rfl, by rw [hv]; rfl, trivial⟩
  · have hge : j = s.len := by simp at h; omega
    rw [hge, List.take_of_length_le (by omega)] at hpre
    repeat (first | refine zz ?_ | refine zx fun _ => ?_)
    exact run_ret hC (rs := [.tmp 2]) rfl (resT rfl resN) (fun _ h => h) ⟨by rw [hpre]; rfl, rfl, rfl⟩
theorem snumL (M : Mem) (L : HL) (b et n : Nat) (cs : List Value) (ns : List Int) (hcs : cs = (ns.map inC).flatten) (hn : ns.length = n) (hlt : n < 1000000) (hm : (b, Obj.cells ⟨cs⟩ et (0, 0)) ∈ L) : TrQ Tryz.prog 65 [.slice (some ⟨b, 0, none⟩) n n] M L (.bool (ns.all nmW)) :=
  TrQ.lend (fun w => Tryz.call65 _ w) fun M' _ hb => by
    have hsl := SlM.ofBlk (M := M') (b := b) (size := 1) (ls := ns.map inC) (hb b _ hm) hcs (by simp [inC])
    rw [List.length_map, hn] at hsl
    exact snum_ok M' [] ⟨some ⟨b, 0, none⟩, n, n, ns⟩ ⟨hsl, hlt⟩
def bareA (a : Ax) : Bool := (((((((a.do_ != 4) || (a.org == 0)) && ((a.do_ == 1) || ((a.auditor == 0) && ((a.gives.len : Int) == 0)))) && (((a.do_ == 2) || (a.do_ == 9)) || ((a.txn.coord == 0) && ((a.txn.epoch == 0) && ((a.txn.seq == 0) && true))))) && ((a.do_ == 2) || !a.yes)) && (((a.do_ == 5) || (a.do_ == 10)) || ((a.steps.len : Int) == 0))) && ((((a.do_ == 4) || (a.do_ == 6)) || (a.do_ == 7)) || (a.n == 0)))
set_option maxHeartbeats 8000000 in
theorem sbare_ok (M : Mem) (L : HL) (a : Ax) : TrQ Tryz.prog 63 [.agg ⟨axC a⟩] M L (.bool (bareA a)) := by
  refine Tr.intro 97 Tryz.func63 rfl rfl Tryz.call63 rfl ?_; intro C hC hro
  repeat (first | refine zz ?_ | refine zx fun _ => ?_ | refine dd ?_ | refine dz ?_ | refine dx fun _ => ?_)
  exact run_ret hC (rs := [.tmp 2]) rfl (resT rfl resN) (fun _ h => h.drop) ⟨rfl, rfl, rfl⟩
end Go.Proofs.YtladcmfbkiogbaaGreatDoor
namespace Go.Proofs.YtladcmfbkiogbaaGreatDoor
open Go.Chi Go.Lib
def wSeen : ByteArray := ⟨#[115, 101, 101, 110]⟩
def wPart : ByteArray := ⟨#[112, 97, 114, 116]⟩
def wNonce : ByteArray := ⟨#[110, 111, 110, 99, 101]⟩
def wBody : ByteArray := ⟨#[98, 111, 100, 121]⟩
def wHash : ByteArray := ⟨#[104, 97, 115, 104]⟩
def wMac : ByteArray := ⟨#[109, 97, 99]⟩
def wSeal : ByteArray := ⟨#[115, 101, 97, 108]⟩
def wRow : ByteArray := ⟨#[114, 111, 119]⟩
def wData : ByteArray := ⟨#[100, 97, 116, 97]⟩
def kW (d : Int) : ByteArray := if d = 1 then wSeen else if d = 3 then wPart else if d = 4 then wNonce else if d = 5 then wBody else if d = 7 then wHash else if d = 8 then wMac else if d = 9 then wSeal else if d = 6 then wRow else wData
def kO (d : Int) : List Nat := if d = 1 then [4] else if d = 3 then [1, 4] else if d = 4 then [1] else if d = 5 then [1, 2] else if d = 7 then [1] else if d = 8 then [1, 2] else if d = 9 then [1, 2, 3] else []
def fdC (b : Nat) (o : Nat) : List Value := [.pointer (some ⟨b, o, none⟩)]
theorem kO_in {d : Int} {o : Nat} (h : o ∈ kO d) : o = 1 ∨ o = 2 ∨ o = 3 ∨ o = 4 := by
  unfold kO at h
  repeat' split at h
  all_goals simp at h <;> omega
theorem kO_le (d : Int) : (kO d).length ≤ 3 := by
  unfold kO
  repeat' split
  all_goals simp
def fdK (bx : Nat) (d : Int) (M : Mem) (L : HL) (v : Value) (M' : Mem) (L' : HL) : Prop :=
  M.le M' ∧ L' = L ∧ ∃ a, v = .tuple ⟨[.string (kW d), .slice a (kO d).length (kO d).length]⟩ ∧ SlM M' 1 a (kO d).length ((kO d).map (fdC bx))
theorem fd_at {M : Mem} {b bx : Nat} {os : List Nat} (h : M.blk b = some (.cells ⟨(os.map (fdC bx)).flatten⟩ 198 (0, 0))) : SlM M 1 (some ⟨b, 0, none⟩) os.length (os.map (fdC bx)) := by
  have := SlM.ofBlk (size := 1) (ls := os.map (fdC bx)) h rfl (fun l hl => by obtain ⟨x, _, rfl⟩ := List.mem_map.1 hl; rfl)
  rwa [List.length_map] at this
set_option maxHeartbeats 16000000 in
theorem fields_ok (M : Mem) (L : HL) (bx : Nat) (d : Int) (cs : List Value) (hm : (bx, Obj.cells ⟨.int .u8 d :: cs⟩ 60 (0, 0)) ∈ L) : Tr Tryz.prog 164 [pt bx] M L (fdK bx d M L) := by
  refine Tr.intro 67 Tryz.func164 rfl rfl Tryz.call164 rfl ?_; intro C hC hro
  repeat (first | refine yy ?_ | refine yx fun _ => ?_ | refine vq ?_ (qt_ld tok rfl hm rfl))
  refine run_cond (t := d == 1) rfl (fun h => ?_) (fun h1 => ?_)
  · obtain rfl : d = 1 := by simpa using h
    repeat (first | refine yy ?_ | refine dd ?_ | refine yd ?_ | refine yx fun _ => ?_)
    refine pr_q 4 (by decide +kernel) rfl (qt_pev tok rfl) rfl rfl rfl ?_
    refine pr_one 3 (by decide +kernel) (eff1 3 rfl (st_buildSlice tok rfl rfl rfl rfl rfl rfl rfl) (by decide +kernel) rfl rfl rfl rfl ?_)
    rintro _ _ _ ⟨b, rfl, rfl, rfl⟩
    refine ⟨by (repeat (first | exact trivial | refine And.intro (pend_q rfl rfl rfl (by first | refine qt_pev tok rfl | refine ql tok rfl | refine qt_indexN tok rfl rfl rfl rfl (fun hy => by first | assumption | omega | (have h0 := hy.1; simp at h0; omega)) | refine qt_index tok rfl rfl rfl rfl (fun _ => by decide) | refine qt_ldM tok rfl (by first | assumption | exact Cells.le (by assumption) (by assumption)) rfl | refine qt_ldM0 tok rfl (by first | assumption | exact Cells.le (by assumption) (by assumption)) rfl | refine qt_strIndex tok rfl rfl rfl (fun _ => by assumption) | refine qt_strIndex (n := 0) tok rfl rfl rfl (fun _ => by assumption) | refine qt_strLo tok rfl rfl rfl (fun hy => by first | assumption | omega | (have h0 := hy.1; simp at h0; omega)) | refine qt_strHi tok rfl rfl rfl (fun hy => by first | assumption | omega | (have h0 := hy.1; simp at h0; omega)) | refine qt_strMid tok rfl rfl rfl rfl (fun hy => by first | assumption | omega | (have h0 := hy.1; simp at h0; omega)) | refine qt_concat rfl rfl (by first | assumption | omega | (simp only [app_size] at *; omega)) | refine qt_shr rfl rfl (fun _ => by decide) | refine qt_makeIfaceC tok rfl rfl rfl | refine qt_assertC tok rfl rfl rfl | refine qt_assertCk tok rfl rfl rfl)) ?_)), ?_⟩
    refine pr_q 5 (by decide +kernel) rfl (qt_pev tok rfl) rfl rfl rfl ?_
    refine pr_end (by decide +kernel) (by decide +kernel) ?_
    refine run_frzL [_] fun M' hM' hb => ?_
    exact run_ret hC (rs := [.tmp 2, .tmp 3]) rfl (resT rfl (resT rfl resN)) (fun _ h => h) ⟨hM', rfl, _, rfl, fd_at (os := [4]) (hb _ List.mem_cons_self)⟩
  repeat (first | refine yy ?_ | refine yx fun _ => ?_)
  refine run_cond (t := d == 3) rfl (fun h => ?_) (fun h2 => ?_)
  · obtain rfl : d = 3 := by simpa using h
    repeat (first | refine yy ?_ | refine dd ?_ | refine yd ?_ | refine yx fun _ => ?_)
    refine pr_q 7 (by decide +kernel) rfl (qt_pev tok rfl) rfl rfl rfl ?_
    refine pr_one 6 (by decide +kernel) (eff1 6 rfl (st_buildSlice tok rfl rfl rfl rfl rfl rfl rfl) (by decide +kernel) rfl rfl rfl rfl ?_)
    rintro _ _ _ ⟨b, rfl, rfl, rfl⟩
    refine ⟨by (repeat (first | exact trivial | refine And.intro (pend_q rfl rfl rfl (by first | refine qt_pev tok rfl | refine ql tok rfl | refine qt_indexN tok rfl rfl rfl rfl (fun hy => by first | assumption | omega | (have h0 := hy.1; simp at h0; omega)) | refine qt_index tok rfl rfl rfl rfl (fun _ => by decide) | refine qt_ldM tok rfl (by first | assumption | exact Cells.le (by assumption) (by assumption)) rfl | refine qt_ldM0 tok rfl (by first | assumption | exact Cells.le (by assumption) (by assumption)) rfl | refine qt_strIndex tok rfl rfl rfl (fun _ => by assumption) | refine qt_strIndex (n := 0) tok rfl rfl rfl (fun _ => by assumption) | refine qt_strLo tok rfl rfl rfl (fun hy => by first | assumption | omega | (have h0 := hy.1; simp at h0; omega)) | refine qt_strHi tok rfl rfl rfl (fun hy => by first | assumption | omega | (have h0 := hy.1; simp at h0; omega)) | refine qt_strMid tok rfl rfl rfl rfl (fun hy => by first | assumption | omega | (have h0 := hy.1; simp at h0; omega)) | refine qt_concat rfl rfl (by first | assumption | omega | (simp only [app_size] at *; omega)) | refine qt_shr rfl rfl (fun _ => by decide) | refine qt_makeIfaceC tok rfl rfl rfl | refine qt_assertC tok rfl rfl rfl | refine qt_assertCk tok rfl rfl rfl)) ?_)), ?_⟩
    refine pr_q 8 (by decide +kernel) rfl (qt_pev tok rfl) rfl rfl rfl ?_
    refine pr_end (by decide +kernel) (by decide +kernel) ?_
    refine run_frzL [_] fun M' hM' hb => ?_
    exact run_ret hC (rs := [.tmp 2, .tmp 3]) rfl (resT rfl (resT rfl resN)) (fun _ h => h) ⟨hM', rfl, _, rfl, fd_at (os := [1, 4]) (hb _ List.mem_cons_self)⟩
  repeat (first | refine yy ?_ | refine yx fun _ => ?_)
  refine run_cond (t := d == 4) rfl (fun h => ?_) (fun h3 => ?_)
  · obtain rfl : d = 4 := by simpa using h
    repeat (first | refine yy ?_ | refine dd ?_ | refine yd ?_ | refine yx fun _ => ?_)
    refine pr_q 4 (by decide +kernel) rfl (qt_pev tok rfl) rfl rfl rfl ?_
    refine pr_one 3 (by decide +kernel) (eff1 3 rfl (st_buildSlice tok rfl rfl rfl rfl rfl rfl rfl) (by decide +kernel) rfl rfl rfl rfl ?_)
    rintro _ _ _ ⟨b, rfl, rfl, rfl⟩
    refine ⟨by (repeat (first | exact trivial | refine And.intro (pend_q rfl rfl rfl (by first | refine qt_pev tok rfl | refine ql tok rfl | refine qt_indexN tok rfl rfl rfl rfl (fun hy => by first | assumption | omega | (have h0 := hy.1; simp at h0; omega)) | refine qt_index tok rfl rfl rfl rfl (fun _ => by decide) | refine qt_ldM tok rfl (by first | assumption | exact Cells.le (by assumption) (by assumption)) rfl | refine qt_ldM0 tok rfl (by first | assumption | exact Cells.le (by assumption) (by assumption)) rfl | refine qt_strIndex tok rfl rfl rfl (fun _ => by assumption) | refine qt_strIndex (n := 0) tok rfl rfl rfl (fun _ => by assumption) | refine qt_strLo tok rfl rfl rfl (fun hy => by first | assumption | omega | (have h0 := hy.1; simp at h0; omega)) | refine qt_strHi tok rfl rfl rfl (fun hy => by first | assumption | omega | (have h0 := hy.1; simp at h0; omega)) | refine qt_strMid tok rfl rfl rfl rfl (fun hy => by first | assumption | omega | (have h0 := hy.1; simp at h0; omega)) | refine qt_concat rfl rfl (by first | assumption | omega | (simp only [app_size] at *; omega)) | refine qt_shr rfl rfl (fun _ => by decide) | refine qt_makeIfaceC tok rfl rfl rfl | refine qt_assertC tok rfl rfl rfl | refine qt_assertCk tok rfl rfl rfl)) ?_)), ?_⟩
    refine pr_q 5 (by decide +kernel) rfl (qt_pev tok rfl) rfl rfl rfl ?_
    refine pr_end (by decide +kernel) (by decide +kernel) ?_
    refine run_frzL [_] fun M' hM' hb => ?_
    exact run_ret hC (rs := [.tmp 2, .tmp 3]) rfl (resT rfl (resT rfl resN)) (fun _ h => h) ⟨hM', rfl, _, rfl, fd_at (os := [1]) (hb _ List.mem_cons_self)⟩
  repeat (first | refine yy ?_ | refine yx fun _ => ?_)
  refine run_cond (t := d == 5) rfl (fun h => ?_) (fun h4 => ?_)
  · obtain rfl : d = 5 := by simpa using h
    repeat (first | refine yy ?_ | refine dd ?_ | refine yd ?_ | refine yx fun _ => ?_)
    refine pr_q 7 (by decide +kernel) rfl (qt_pev tok rfl) rfl rfl rfl ?_
    refine pr_one 6 (by decide +kernel) (eff1 6 rfl (st_buildSlice tok rfl rfl rfl rfl rfl rfl rfl) (by decide +kernel) rfl rfl rfl rfl ?_)
    rintro _ _ _ ⟨b, rfl, rfl, rfl⟩
    refine ⟨by (repeat (first | exact trivial | refine And.intro (pend_q rfl rfl rfl (by first | refine qt_pev tok rfl | refine ql tok rfl | refine qt_indexN tok rfl rfl rfl rfl (fun hy => by first | assumption | omega | (have h0 := hy.1; simp at h0; omega)) | refine qt_index tok rfl rfl rfl rfl (fun _ => by decide) | refine qt_ldM tok rfl (by first | assumption | exact Cells.le (by assumption) (by assumption)) rfl | refine qt_ldM0 tok rfl (by first | assumption | exact Cells.le (by assumption) (by assumption)) rfl | refine qt_strIndex tok rfl rfl rfl (fun _ => by assumption) | refine qt_strIndex (n := 0) tok rfl rfl rfl (fun _ => by assumption) | refine qt_strLo tok rfl rfl rfl (fun hy => by first | assumption | omega | (have h0 := hy.1; simp at h0; omega)) | refine qt_strHi tok rfl rfl rfl (fun hy => by first | assumption | omega | (have h0 := hy.1; simp at h0; omega)) | refine qt_strMid tok rfl rfl rfl rfl (fun hy => by first | assumption | omega | (have h0 := hy.1; simp at h0; omega)) | refine qt_concat rfl rfl (by first | assumption | omega | (simp only [app_size] at *; omega)) | refine qt_shr rfl rfl (fun _ => by decide) | refine qt_makeIfaceC tok rfl rfl rfl | refine qt_assertC tok rfl rfl rfl | refine qt_assertCk tok rfl rfl rfl)) ?_)), ?_⟩
    refine pr_q 8 (by decide +kernel) rfl (qt_pev tok rfl) rfl rfl rfl ?_
    refine pr_end (by decide +kernel) (by decide +kernel) ?_
    refine run_frzL [_] fun M' hM' hb => ?_
    exact run_ret hC (rs := [.tmp 2, .tmp 3]) rfl (resT rfl (resT rfl resN)) (fun _ h => h) ⟨hM', rfl, _, rfl, fd_at (os := [1, 2]) (hb _ List.mem_cons_self)⟩
  repeat (first | refine yy ?_ | refine yx fun _ => ?_)
  refine run_cond (t := d == 7) rfl (fun h => ?_) (fun h5 => ?_)
  · obtain rfl : d = 7 := by simpa using h
    repeat (first | refine yy ?_ | refine dd ?_ | refine yd ?_ | refine yx fun _ => ?_)
    refine pr_q 4 (by decide +kernel) rfl (qt_pev tok rfl) rfl rfl rfl ?_
    refine pr_one 3 (by decide +kernel) (eff1 3 rfl (st_buildSlice tok rfl rfl rfl rfl rfl rfl rfl) (by decide +kernel) rfl rfl rfl rfl ?_)
    rintro _ _ _ ⟨b, rfl, rfl, rfl⟩
    refine ⟨by (repeat (first | exact trivial | refine And.intro (pend_q rfl rfl rfl (by first | refine qt_pev tok rfl | refine ql tok rfl | refine qt_indexN tok rfl rfl rfl rfl (fun hy => by first | assumption | omega | (have h0 := hy.1; simp at h0; omega)) | refine qt_index tok rfl rfl rfl rfl (fun _ => by decide) | refine qt_ldM tok rfl (by first | assumption | exact Cells.le (by assumption) (by assumption)) rfl | refine qt_ldM0 tok rfl (by first | assumption | exact Cells.le (by assumption) (by assumption)) rfl | refine qt_strIndex tok rfl rfl rfl (fun _ => by assumption) | refine qt_strIndex (n := 0) tok rfl rfl rfl (fun _ => by assumption) | refine qt_strLo tok rfl rfl rfl (fun hy => by first | assumption | omega | (have h0 := hy.1; simp at h0; omega)) | refine qt_strHi tok rfl rfl rfl (fun hy => by first | assumption | omega | (have h0 := hy.1; simp at h0; omega)) | refine qt_strMid tok rfl rfl rfl rfl (fun hy => by first | assumption | omega | (have h0 := hy.1; simp at h0; omega)) | refine qt_concat rfl rfl (by first | assumption | omega | (simp only [app_size] at *; omega)) | refine qt_shr rfl rfl (fun _ => by decide) | refine qt_makeIfaceC tok rfl rfl rfl | refine qt_assertC tok rfl rfl rfl | refine qt_assertCk tok rfl rfl rfl)) ?_)), ?_⟩
    refine pr_q 5 (by decide +kernel) rfl (qt_pev tok rfl) rfl rfl rfl ?_
    refine pr_end (by decide +kernel) (by decide +kernel) ?_
    refine run_frzL [_] fun M' hM' hb => ?_
    exact run_ret hC (rs := [.tmp 2, .tmp 3]) rfl (resT rfl (resT rfl resN)) (fun _ h => h) ⟨hM', rfl, _, rfl, fd_at (os := [1]) (hb _ List.mem_cons_self)⟩
  repeat (first | refine yy ?_ | refine yx fun _ => ?_)
  refine run_cond (t := d == 8) rfl (fun h => ?_) (fun h6 => ?_)
  · obtain rfl : d = 8 := by simpa using h
    repeat (first | refine yy ?_ | refine dd ?_ | refine yd ?_ | refine yx fun _ => ?_)
    refine pr_q 7 (by decide +kernel) rfl (qt_pev tok rfl) rfl rfl rfl ?_
    refine pr_one 6 (by decide +kernel) (eff1 6 rfl (st_buildSlice tok rfl rfl rfl rfl rfl rfl rfl) (by decide +kernel) rfl rfl rfl rfl ?_)
    rintro _ _ _ ⟨b, rfl, rfl, rfl⟩
    refine ⟨by (repeat (first | exact trivial | refine And.intro (pend_q rfl rfl rfl (by first | refine qt_pev tok rfl | refine ql tok rfl | refine qt_indexN tok rfl rfl rfl rfl (fun hy => by first | assumption | omega | (have h0 := hy.1; simp at h0; omega)) | refine qt_index tok rfl rfl rfl rfl (fun _ => by decide) | refine qt_ldM tok rfl (by first | assumption | exact Cells.le (by assumption) (by assumption)) rfl | refine qt_ldM0 tok rfl (by first | assumption | exact Cells.le (by assumption) (by assumption)) rfl | refine qt_strIndex tok rfl rfl rfl (fun _ => by assumption) | refine qt_strIndex (n := 0) tok rfl rfl rfl (fun _ => by assumption) | refine qt_strLo tok rfl rfl rfl (fun hy => by first | assumption | omega | (have h0 := hy.1; simp at h0; omega)) | refine qt_strHi tok rfl rfl rfl (fun hy => by first | assumption | omega | (have h0 := hy.1; simp at h0; omega)) | refine qt_strMid tok rfl rfl rfl rfl (fun hy => by first | assumption | omega | (have h0 := hy.1; simp at h0; omega)) | refine qt_concat rfl rfl (by first | assumption | omega | (simp only [app_size] at *; omega)) | refine qt_shr rfl rfl (fun _ => by decide) | refine qt_makeIfaceC tok rfl rfl rfl | refine qt_assertC tok rfl rfl rfl | refine qt_assertCk tok rfl rfl rfl)) ?_)), ?_⟩
    refine pr_q 8 (by decide +kernel) rfl (qt_pev tok rfl) rfl rfl rfl ?_
    refine pr_end (by decide +kernel) (by decide +kernel) ?_
    refine run_frzL [_] fun M' hM' hb => ?_
    exact run_ret hC (rs := [.tmp 2, .tmp 3]) rfl (resT rfl (resT rfl resN)) (fun _ h => h) ⟨hM', rfl, _, rfl, fd_at (os := [1, 2]) (hb _ List.mem_cons_self)⟩
  repeat (first | refine yy ?_ | refine yx fun _ => ?_)
  refine run_cond (t := d == 9) rfl (fun h => ?_) (fun h7 => ?_)
  · obtain rfl : d = 9 := by simpa using h
    repeat (first | refine yy ?_ | refine dd ?_ | refine yd ?_ | refine yx fun _ => ?_)
    refine pr_q 10 (by decide +kernel) rfl (qt_pev tok rfl) rfl rfl rfl ?_
    refine pr_one 9 (by decide +kernel) (eff1 9 rfl (st_buildSlice tok rfl rfl rfl rfl rfl rfl rfl) (by decide +kernel) rfl rfl rfl rfl ?_)
    rintro _ _ _ ⟨b, rfl, rfl, rfl⟩
    refine ⟨by (repeat (first | exact trivial | refine And.intro (pend_q rfl rfl rfl (by first | refine qt_pev tok rfl | refine ql tok rfl | refine qt_indexN tok rfl rfl rfl rfl (fun hy => by first | assumption | omega | (have h0 := hy.1; simp at h0; omega)) | refine qt_index tok rfl rfl rfl rfl (fun _ => by decide) | refine qt_ldM tok rfl (by first | assumption | exact Cells.le (by assumption) (by assumption)) rfl | refine qt_ldM0 tok rfl (by first | assumption | exact Cells.le (by assumption) (by assumption)) rfl | refine qt_strIndex tok rfl rfl rfl (fun _ => by assumption) | refine qt_strIndex (n := 0) tok rfl rfl rfl (fun _ => by assumption) | refine qt_strLo tok rfl rfl rfl (fun hy => by first | assumption | omega | (have h0 := hy.1; simp at h0; omega)) | refine qt_strHi tok rfl rfl rfl (fun hy => by first | assumption | omega | (have h0 := hy.1; simp at h0; omega)) | refine qt_strMid tok rfl rfl rfl rfl (fun hy => by first | assumption | omega | (have h0 := hy.1; simp at h0; omega)) | refine qt_concat rfl rfl (by first | assumption | omega | (simp only [app_size] at *; omega)) | refine qt_shr rfl rfl (fun _ => by decide) | refine qt_makeIfaceC tok rfl rfl rfl | refine qt_assertC tok rfl rfl rfl | refine qt_assertCk tok rfl rfl rfl)) ?_)), ?_⟩
    refine pr_q 11 (by decide +kernel) rfl (qt_pev tok rfl) rfl rfl rfl ?_
    refine pr_end (by decide +kernel) (by decide +kernel) ?_
    refine run_frzL [_] fun M' hM' hb => ?_
    exact run_ret hC (rs := [.tmp 2, .tmp 3]) rfl (resT rfl (resT rfl resN)) (fun _ h => h) ⟨hM', rfl, _, rfl, fd_at (os := [1, 2, 3]) (hb _ List.mem_cons_self)⟩
  simp only [beq_eq_false_iff_ne, ne_eq] at h1 h2 h3 h4 h5 h6 h7
  have e0 : kO d = [] := by simp [kO, *]
  have ew : kW d = if d = 6 then wRow else wData := by simp [kW, *]
  have hs : SlM M 1 none 0 ([].map (fdC bx)) := ⟨rfl, (fun _ h => by cases h), .inl rfl⟩
  repeat (first | refine yy ?_ | refine yx fun _ => ?_)
  refine run_cond (t := d == 6) rfl (fun h => ?_) (fun h8 => ?_)
  · repeat (first | refine yy ?_ | refine yx fun _ => ?_)
    exact run_ret hC (rs := [.tmp 2, .tmp 3]) rfl (resT rfl (resT rfl resN)) (fun _ h => h) ⟨Mem.le_refl _, rfl, none, by rw [e0, ew, if_pos (by simpa using h)]; rfl, by rw [e0]; exact hs⟩
  · repeat (first | refine yy ?_ | refine yx fun _ => ?_)
    exact run_ret hC (rs := [.tmp 2, .tmp 3]) rfl (resT rfl (resT rfl resN)) (fun _ h => h) ⟨Mem.le_refl _, rfl, none, by rw [e0, ew, if_neg (by simpa using h8)]; rfl, by rw [e0]; exact hs⟩
end Go.Proofs.YtladcmfbkiogbaaGreatDoor
namespace Go.Proofs.YtladcmfbkiogbaaGreatDoor
open Go.Chi Go.Lib
def sp1 : ByteArray := ⟨#[32]⟩
def plusB : ByteArray := ⟨#[32, 43, 32]⟩
def kdTo (w : ByteArray) : Nat → Int
  | 0 => 0
  | j + 1 => if kW ((j + 1 : Nat) : Int) = w then ((j + 1 : Nat) : Int) else kdTo w j
def sp0 (d : Int) : Sp := ⟨d, 0, 0, 0, 0, ⟨#[]⟩, []⟩
def setF (x : Sp) (o : Nat) (v : Int) : Sp := if o = 1 then { x with a := v } else if o = 2 then { x with b := v } else if o = 3 then { x with c := v } else { x with n := v }
def spC (x : Sp) (lv : Value) : List Value := [.int .u8 x.do_, .int .i64 x.a, .int .i64 x.b, .int .i64 x.c, .int .i64 x.n, .string x.text, lv]
def fsO : List Nat → Sp → ByteArray → Option (Sp × ByteArray)
  | [], x, s => some (x, s)
  | o :: os, x, s => (hearO s sp1).bind fun y => (numO 2147483647 y.2).bind fun z => fsO os (setF x o z.1) z.2
def rowO : Nat → ByteArray → Option (List Int × ByteArray)
  | 0, s => some ([], s)
  | k + 1, s => if s = ⟨#[]⟩ ∨ preB s plusB = true then some ([], s) else (hearO s sp1).bind fun y => (numO 2147483647 y.2).bind fun z => (rowO k z.2).bind fun l => some ((z.1 : Int) :: l.1, l.2)
def estO (s : ByteArray) : Option (Sp × ByteArray) :=
  if kdTo (wordO s sgSp).1 9 = 0 then none else (fsO (kO (kdTo (wordO s sgSp).1 9)) (sp0 (kdTo (wordO s sgSp).1 9)) (wordO s sgSp).2).bind fun y =>
    if y.1.do_ = 2 then (hearO y.2 sp1).bind fun z => (termO z.2 plusB).bind fun t => if kindN t.1 = 1 then some ({ y.1 with text := (textN t.1).1 }, t.2) else none
    else if y.1.do_ = 6 then (rowO y.2.size y.2).bind fun z => some ({ y.1 with list := z.1 }, z.2)
    else some y
def srK (br : Nat) (nv : Value) (M : Mem) (L : HL) (o : Option (Sp × ByteArray)) (en : Ending) (M' : Mem) (L' : HL) : Prop :=
  M.le M' ∧ match o with
    | some x => ∃ r : Sr, SrOk M' r ∧ r.sp = x.1 ∧ en = .returned (.agg ⟨srC r⟩) ∧ L' = erB br nv x.2 :: L
    | none => en = .panicked panT ∧ ∃ s', L' = erB br nv s' :: L
theorem setF_set {x : Sp} {o : Nat} (v : Nat) (lv : Value) (h : o = 1 ∨ o = 2 ∨ o = 3 ∨ o = 4) : setE (spC x lv) o (cellsL (iv v)) = some (spC (setF x o v) lv) := by
  rcases h with rfl | rfl | rfl | rfl <;> rfl
theorem setF_do (x : Sp) (o : Nat) (v : Int) : (setF x o v).do_ = x.do_ ∧ (setF x o v).text = x.text ∧ (setF x o v).list = x.list := by
  unfold setF
  repeat' split
  all_goals exact ⟨rfl, rfl, rfl⟩
theorem fsO_sz : ∀ {os : List Nat} {x : Sp} {s : ByteArray} {y : Sp × ByteArray}, fsO os x s = some y → y.2.size ≤ s.size ∧ y.1.do_ = x.do_ ∧ y.1.text = x.text ∧ y.1.list = x.list
  | [], x, s, y, h => by cases h; exact ⟨Nat.le_refl _, rfl, rfl, rfl⟩
  | o :: os, x, s, y, h => by
    rw [fsO] at h
    obtain ⟨y1, h1, h⟩ := Option.bind_eq_some_iff.1 h
    obtain ⟨z1, h2, h⟩ := Option.bind_eq_some_iff.1 h
    have e1 := hearO_sz h1
    have e2 := numO_sz h2
    obtain ⟨e3, e4, e5, e6⟩ := fsO_sz h
    obtain ⟨f1, f2, f3⟩ := setF_do x o z1.1
    exact ⟨by omega, by rw [e4, f1], by rw [e5, f2], by rw [e6, f3]⟩
def preI (xs : List Int) (o : Option (List Int × ByteArray)) : Option (List Int × ByteArray) := o.map fun x => (xs ++ x.1, x.2)
theorem preI_cons (xs : List Int) (v : Int) (o : Option (List Int × ByteArray)) : preI xs (o.bind fun l => some (v :: l.1, l.2)) = preI (xs ++ [v]) o := by
  cases o with
  | none => rfl
  | some x => simp [preI]
theorem strsI_flat (xs : List Int) : xs.map (Value.int .i64) = (xs.map inC).flatten := by
  induction xs with
  | nil => rfl
  | cons x l ih => rw [List.map_cons, ih]; rfl
theorem hearO_1 {s p : ByteArray} {x : Unit × ByteArray} (h : hearO s p = some x) : x.2.size + p.size = s.size := by
  unfold hearO at h
  split at h
  · rename_i h0
    cases h
    have := pre_size h0
    show (nextR s p).size + _ = _
    rw [nextR, if_pos h0, ByteArray.size_extract]; omega
  · cases h
theorem ba_nil {s : ByteArray} (h : s.size = 0) : s = ⟨#[]⟩ := by
  apply ba_ext
  exact List.eq_nil_of_length_eq_zero (by rw [ba_len]; exact h)
theorem wrap8 {j : Nat} (h : j < 9) : IntKind.u8.wrap (((j + 1 : Nat) : Int) + 1) = ((j + 2 : Nat) : Int) := by
  have : ∀ n : Fin 9, IntKind.u8.wrap (((n.val + 1 : Nat) : Int) + 1) = ((n.val + 2 : Nat) : Int) := by decide
  exact this ⟨j, h⟩
theorem st_app1x {P : Program} {T : TT} {ro : Option Nat} {σ : Env} {δ : Den} {M : Mem} {L0 N : HL} {q : Nat × Obj} {d : Option Nat} {ty : TypeId} {pos : String} {aft : Array Edge} {g : Option (Nat × Bool)} {cur : Path} {x y : Operand} {t e e2 sz by_ n b c0 : Nat} {a0 : Option Addr} {z : Value} {xs news : List Value} {fz : Nat × Nat}
    (hT : TOk P T) (hx : ev σ δ cur x = some (.slice a0 n c0)) (hy : ev σ δ cur y = some (.slice (some ⟨b, 0, none⟩) 1 1)) (ht : und T t = some (.slice e)) (hi : sizeT T e = some sz) (hz : zeroT T e = some z) (hzs : (cellsL z).length = sz) (hb : bytesT T e = some by_) (hby : Nat.ble 1 by_ = true)
    (hO : OS e sz (.slice a0 n c0) n xs N) (hn : news.length = sz) (h1 : ∀ u ∈ news, u.oneCell' = true) (hroom : (2 * (n + 1) + 192) * by_ ≤ 281474976710656) (h63 : n + 1 < 9223372036854775808) :
    St P ro ⟨d, .call ⟨.builtin .append, #[x, y], #[t, t]⟩, ty, pos, aft, g⟩ σ δ cur M ((b, .cells ⟨news⟩ e2 fz) :: q :: (N ++ L0)) (fun v M' L' => M = M' ∧ ∃ N' a c, v = .slice a (n + 1) c ∧ L' = q :: (N' ++ L0) ∧ OS e sz (.slice a (n + 1) c) (n + 1) (xs ++ news) N') := by
  refine St.frz (st_append (news := news) (m := 1) (N := N) (L0 := (b, .cells ⟨news⟩ e2 fz) :: q :: L0) hT hx hy ht hi hz hzs hb hby (List.perm_middle.trans (List.perm_middle.cons _)).symm hO (.inr ⟨b, 0, 1, rfl, cellsAll List.mem_cons_self, by rw [hn, Nat.one_mul]⟩) h1 hroom h63) ?_
  rintro v M' L' w hw ⟨N', rfl, rfl, hO'⟩
  have hv : ∃ a c, v = .slice a (n + 1) c := by
    rcases hO' with ⟨rfl, h0, _⟩ | ⟨b', cap, cs, rfl, _⟩
    · omega
    · exact ⟨_, cap, rfl⟩
  obtain ⟨a, c, rfl⟩ := hv
  exact ⟨M, _, (hw.perm (List.perm_middle.trans (List.perm_middle.cons _))).drop, rfl, N', a, c, rfl, rfl, hO'⟩
theorem erP {α : Type} {br i : Nat} {nv : Value} {C : Cx} {n : Nat} {ops : Array Oper} {k : List Item} {ds : List Deferred} {X : List Nat} {σ : Env} {δ : Den} {M : Mem} {L : HL} {s : ByteArray} {o : Option (α × ByteArray)} {f : α → Value} {g : FuncId} {vs : List Value} {d : Nat} {ty : TypeId} {pos : String} {aft : Array Edge} {args : Array Operand} {tys : Array TypeId}
    (ht : TrE Tryz.prog g vs M (erB br nv s :: L) (erK br nv M L o f))
    (h : ∀ x, o = some x → PendAll Tryz.prog C.b.roundOf ops σ δ M (erB br nv x.2 :: L) (open_ ops (dn i) X i) ∧ PR Tryz.prog C n ops k ds (dn (i + 1)) (i :: X) ((d, f x.1) :: σ) δ M (erB br nv x.2 :: L))
    (hp : o = none → ∀ s', RunX Tryz.prog C n (.panicking panT) ds [] M (erB br nv s' :: L))
    (ho : ops[i]? = some ⟨some d, .call ⟨.value (.func g), args, tys⟩, ty, pos, aft, none⟩ := by exact rfl) (ha : evs σ δ [] args.toList = some vs := by exact rfl) (hchk : (acyc ops && chkC ops (dn i) [i] && chkE1 ops (dn i) i) = true := by decide +kernel) (hd : Nat.blt d n = true := by exact rfl) (hn : lkd δ d = none := by exact rfl) (hu : unNamed δ d = true := by exact rfl) :
    PR Tryz.prog C n ops k ds (dn i) X σ δ M (erB br nv s :: L) := by
  refine prn_callE ho hchk ha ht hd hn hu ?_ ?_
  · rintro ch _ _ ⟨rfl, hv⟩
    cases o with
    | some x => cases hv.1
    | none => obtain ⟨hv, s', rfl⟩ := hv; cases hv; exact hp rfl s'
  · rintro v _ _ ⟨rfl, hv⟩
    cases o with
    | none => cases hv.1
    | some x => obtain ⟨hv, rfl⟩ := hv; cases hv; exact h x rfl
theorem termO_sz {s sg : ByteArray} {x : ByteArray × ByteArray} (h : termO s sg = some x) : x.1.size ≤ 16384 ∧ x.2.size ≤ s.size := by
  unfold termO at h
  split at h
  · rename_i h0
    cases h
    refine ⟨?_, by show (s.extract _ _).size ≤ _; rw [ByteArray.size_extract]; omega⟩
    show (parseE _).1.size ≤ _
    revert h0
    unfold parseE
    split
    · rename_i x hx
      split
      · intro _; exact (pT_sz 16 _ _ hx).1
      · intro h0; cases h0
    · intro h0; cases h0
  · cases h
set_option maxHeartbeats 32000000 in
theorem estep_ok (M : Mem) (L : HL) (hG : G38 M) (br : Nat) (nv : Value) (s : ByteArray) (hs : s.size < 1000000) : TrE Tryz.prog 130 [pt br] M (erB br nv s :: L) (srK br nv M L (estO s)) := by
  obtain ⟨R, hR⟩ : ∃ R, estO s = R := ⟨_, rfl⟩
  rw [hR]
  rw [estO] at hR
  have hw2 := (wordO_sz s sgSp).2
  generalize hw : wordO s sgSp = W at hR hw2
  refine TrE.intro 94 Tryz.func130 rfl rfl Tryz.call130 rfl ?_; intro C hC hro
  refine run_seq ?_
  refine run_region ?_
  refine yx fun tb => ?_
  refine runL_nil ?_
  refine run_mem (fun _ h => h.perm (List.Perm.swap _ _ _)) ?_
  have hdrop : ∀ {M1 : Mem} {q1 q2 : Nat × Obj} {w : World}, Hp M1 (q1 :: q2 :: L) w → Hp M1 (q1 :: L) w := fun h => (h.perm (List.Perm.swap _ _ _)).drop
  repeat (first | refine yy ?_ | refine yx fun _ => ?_ | (refine oc (word_ok _ _ br nv s sgSp hs (by decide) (by decide) sgSp_ok) ?_; rintro _ M0 _ ⟨hM0, rfl, rfl⟩))
  subst hM0
  rw [hw]
  refine run_loopN (fun j σ1 M1 L1 => j ≤ 9 ∧ M.le M1 ∧ L1 = erB br nv W.2 :: (tb, .cells ⟨spC (sp0 (kdTo W.1 j)) (.slice none 0 0)⟩ 60 (0, 0)) :: L ∧ σ1 = [(4, .int .u8 ((j + 1 : Nat) : Int)), (3, .string W.1), (2, pt tb), (0, pt br)]) 9 [(4, .int .u8 ((1 : Nat) : Int)), (3, .string W.1), (2, pt tb), (0, pt br)] ?_ ⟨Nat.zero_le _, Mem.le_refl _, rfl, rfl⟩ (fun j _ _ _ h => h.1) ?_
  · exact ⟨rfl, rfl, rfl, rfl, trivial⟩
  rintro j _ M1 _ ⟨hj, hM1, rfl, rfl⟩ hnext
  repeat (first | refine yy ?_ | refine yx fun _ => ?_)
  refine run_cond (t := decide (((j + 1 : Nat) : Int) ≤ 9)) rfl (fun h => ?_) (fun h => ?_)
  · have hlt : j < 9 := by have := of_decide_eq_true h; omega
    repeat (first | refine yy ?_ | refine yx fun _ => ?_ | (refine oc (fields_ok _ _ _ _ _ List.mem_cons_self) ?_; rintro _ M2 _ ⟨hM2, rfl, a, rfl, _⟩))
    refine run_cond (t := (kW ((j + 1 : Nat) : Int)).toList == W.1.toList) rfl (fun h1 => ?_) (fun h1 => ?_)
    · rw [bytes_beq] at h1
      repeat (first | refine yy ?_ | refine yx fun _ => ?_)
      exact run_mem (fun _ h => h.drop) (run_sub' (hnext _ _ _ ⟨hlt, Mem.le_trans hM1 hM2, by rw [kdTo, if_pos (by simpa using h1)]; rfl, rfl⟩) ⟨congrArg (fun z => some (Value.int .u8 z)) (wrap8 hlt), rfl, rfl, rfl, trivial⟩)
    · rw [bytes_beq] at h1
      repeat (first | refine yy ?_ | refine yx fun _ => ?_)
      exact run_mem (fun _ h => h.drop) (run_sub' (hnext _ _ _ ⟨hlt, Mem.le_trans hM1 hM2, by rw [kdTo, if_neg (by simpa using h1)], rfl⟩) ⟨congrArg (fun z => some (Value.int .u8 z)) (wrap8 hlt), rfl, rfl, rfl, trivial⟩)
  have hge : j = 9 := by have := of_decide_eq_false h; omega
  subst hge
  clear hnext
  generalize hd : kdTo W.1 9 = d at hR
  repeat (first | refine yy ?_ | refine yx fun _ => ?_)
  refine umR (b := d != 0) (fun h0 => ?_) (fun h0 => ?_)
  rotate_left
  · rw [if_pos (by simpa using h0)] at hR
    exact runX_pan hC (fun _ h => hdrop h) ⟨hM1, by rw [← hR]; exact ⟨rfl, _, rfl⟩⟩
  rw [if_neg (by simpa using h0)] at hR
  repeat (first | refine yy ?_ | refine yx fun _ => ?_ | (refine oc (fields_ok _ _ tb d _ (List.mem_cons_of_mem _ List.mem_cons_self)) ?_; rintro _ M2 _ ⟨hM2, rfl, a, rfl, hsl⟩))
  have hMM := Mem.le_trans hM1 hM2
  have hG2 := hG.le hMM
  have hn3 := kO_le d
  refine run_loopN (fun j σ1 M3 L3 => j ≤ (kO d).length ∧ M2 = M3 ∧ ∃ x s1, x.do_ = d ∧ x.text = ⟨#[]⟩ ∧ x.list = [] ∧ s1.size < 1000000 ∧ fsO (kO d) (sp0 d) W.2 = fsO ((kO d).drop j) x s1 ∧ L3 = erB br nv s1 :: (tb, .cells ⟨spC x (.slice none 0 0)⟩ 60 (0, 0)) :: L ∧ σ1 = [(40, iv j), (39, iv (kO d).length), (38, .slice a (kO d).length (kO d).length), (2, pt tb), (0, pt br)]) (kO d).length [(40, iv 0), (39, iv (kO d).length), (38, .slice a (kO d).length (kO d).length), (2, pt tb), (0, pt br)] ?_ ⟨Nat.zero_le _, rfl, sp0 d, W.2, rfl, rfl, rfl, by omega, rfl, rfl, rfl⟩ (fun j _ _ _ h => h.1) ?_
  · exact ⟨rfl, rfl, rfl, rfl, rfl, trivial⟩
  rintro j _ _ _ ⟨hj, rfl, x, s1, hxd, hxt, hxl, hs1, hfs, rfl, rfl⟩ hnext
  repeat (first | refine yy ?_ | refine yx fun _ => ?_)
  refine run_cond (t := decide ((j : Int) < ((kO d).length : Int))) rfl (fun h => ?_) (fun h => ?_)
  · have hlt : j < (kO d).length := by have := of_decide_eq_true h; omega
    obtain ⟨b, off, c, rfl, hc, _, hcells⟩ := hsl.at_ hlt
    obtain ⟨o, ho, rfl⟩ : ∃ o, (kO d)[j]? = some o ∧ fdC tb o = c := by simpa using hc
    have hin := kO_in (List.mem_of_getElem? ho)
    rw [List.drop_eq_getElem_cons hlt, (List.getElem?_eq_some_iff.1 ho).2, fsO] at hfs
    rw [hfs] at hR
    repeat (first | refine yy ?_ | refine yx fun _ => ?_)
    refine erR (hear_ok _ _ br nv s1 sp1) (fun y hy => ?_) (fun hy s' => ?_)
    rotate_left
    · rw [hy] at hR
      exact runX_pan hC (fun _ h => hdrop h) ⟨hMM, by rw [← hR]; exact ⟨rfl, s', rfl⟩⟩
    rw [hy, Option.bind_some] at hR hfs
    have hzy := hearO_sz hy
    repeat (first | refine yy ?_ | refine yx fun _ => ?_)
    refine erR (num_ok38 _ _ hG2 br nv y.2 (by omega) 2147483647 (by decide)) (fun z hz => ?_) (fun hz s' => ?_)
    rotate_left
    · rw [hz] at hR
      exact runX_pan hC (fun _ h => hdrop h) ⟨hMM, by rw [← hR]; exact ⟨rfl, s', rfl⟩⟩
    rw [hz, Option.bind_some] at hR hfs
    have hzz := numO_sz hz
    obtain ⟨f1, f2, f3⟩ := setF_do x o z.1
    repeat (first | refine yy ?_ | refine yx fun _ => ?_ | refine ws ?_ rfl rfl rfl rfl rfl (Upd.there _ (Upd.here _ _ _ _)) (setF_set z.1 _ hin))
    exact run_sub' (hnext _ _ _ ⟨hlt, rfl, _, _, by rw [f1, hxd], by rw [f2, hxt], by rw [f3, hxl], by omega, hfs, rfl, rfl⟩) ⟨lk_succ rfl (by omega), rfl, rfl, rfl, rfl, trivial⟩
  have hge : j = (kO d).length := by have := of_decide_eq_false h; omega
  subst hge
  clear hnext
  rw [List.drop_length, fsO] at hfs
  rw [hfs, Option.bind_some] at hR
  dsimp only at hR
  repeat (first | refine yy ?_ | refine yx fun _ => ?_)
  refine run_cond (t := x.do_ == 2) rfl (fun h2 => ?_) (fun h2 => ?_)
  · rw [if_pos (by simpa using h2)] at hR
    repeat (first | refine yy ?_ | refine yx fun _ => ?_)
    refine erR (hear_ok _ _ br nv s1 sp1) (fun y hy => ?_) (fun hy s' => ?_)
    rotate_left
    · rw [hy] at hR
      exact runX_pan hC (fun _ h => hdrop h) ⟨hMM, by rw [← hR]; exact ⟨rfl, s', rfl⟩⟩
    rw [hy, Option.bind_some] at hR
    have hzy := hearO_sz hy
    repeat (first | refine yy ?_ | refine yx fun _ => ?_)
    refine erR (eterm_ok _ _ br nv y.2 plusB (by omega)) (fun t ht => ?_) (fun ht s' => ?_)
    rotate_left
    · rw [ht] at hR
      exact runX_pan hC (fun _ h => hdrop h) ⟨hMM, by rw [← hR]; exact ⟨rfl, s', rfl⟩⟩
    rw [ht, Option.bind_some] at hR
    have hzt := termO_sz ht
    have hzx := ttextsz t.1
    repeat (first | refine yy ?_ | refine yx fun _ => ?_)
    refine qc (tkind_ok _ _ t.1 (by omega)) ?_
    refine vq ?_
    refine umR (b := kindN t.1 == 1) (fun h => ?_) (fun h => ?_)
    rotate_left
    · rw [if_neg (by simpa using h)] at hR
      exact runX_pan hC (fun _ h => hdrop h) ⟨hMM, by rw [← hR]; exact ⟨rfl, _, rfl⟩⟩
    rw [if_pos (by simpa using h)] at hR
    repeat (first | refine yy ?_ | refine yx fun _ => ?_)
    refine qc (ttext_ok _ _ t.1 (by omega)) ?_
    repeat (first | refine yy ?_ | refine yx fun _ => ?_)
    refine run_retX hro ?_
    exact runX_ret hC (rs := [.cell 2 60]) rfl (rl tok rfl resN) (fun _ h => hdrop h) ⟨hMM, by rw [← hR]; exact ⟨⟨x.do_, x.a, x.b, x.c, x.n, (textN t.1).1, ⟨none, 0, 0, []⟩⟩, ⟨⟨⟨rfl, (fun _ h => by cases h), .inl rfl⟩, by show (0 : Nat) < 1000000; decide⟩, by show (textN t.1).1.size < _; omega⟩, by show (⟨_, _, _, _, _, _, []⟩ : Sp) = ⟨_, _, _, _, _, _, x.list⟩; rw [hxl], rfl, rfl⟩⟩
  rw [if_neg (by simpa using h2)] at hR
  repeat (first | refine yy ?_ | refine yx fun _ => ?_)
  refine run_cond (t := x.do_ == 6) rfl (fun h6 => ?_) (fun h6 => ?_)
  rotate_left
  · rw [if_neg (by simpa using h6)] at hR
    repeat (first | refine yy ?_ | refine yx fun _ => ?_)
    refine run_retX hro ?_
    exact runX_ret hC (rs := [.cell 2 60]) rfl (rl tok rfl resN) (fun _ h => hdrop h) ⟨hMM, by rw [← hR]; exact ⟨⟨x.do_, x.a, x.b, x.c, x.n, x.text, ⟨none, 0, 0, []⟩⟩, ⟨⟨⟨rfl, (fun _ h => by cases h), .inl rfl⟩, by show (0 : Nat) < 1000000; decide⟩, by show x.text.size < _; rw [hxt]; decide⟩, by show (⟨_, _, _, _, _, _, []⟩ : Sp) = x; rw [← hxl], rfl, rfl⟩⟩
  rw [if_pos (by simpa using h6)] at hR
  repeat (first | refine yy ?_ | refine yx fun _ => ?_)
  refine run_loopN (fun j σ1 M3 L3 => j ≤ s1.size ∧ M2 = M3 ∧ ∃ a c N xs s2, xs.length = j ∧ L3 = erB br nv s2 :: (N ++ (tb, .cells ⟨spC x (.slice a j c)⟩ 60 (0, 0)) :: L) ∧ OS 3 1 (.slice a j c) j (xs.map (Value.int .i64)) N ∧ s2.size + j ≤ s1.size ∧ rowO s1.size s1 = preI xs (rowO (s1.size - j) s2) ∧ σ1 = [(2, pt tb), (0, pt br)]) s1.size [(2, pt tb), (0, pt br)] ?_ ⟨Nat.zero_le _, rfl, none, 0, [], [], s1, rfl, rfl, .inl ⟨rfl, rfl, rfl, rfl⟩, Nat.le_refl _, by rw [Nat.sub_zero, preI]; cases rowO s1.size s1 <;> rfl, rfl⟩ (fun j _ _ _ h => h.1) ?_
  · exact ⟨rfl, rfl, trivial⟩
  rintro j _ _ _ ⟨hj, rfl, a, c, N, xs, s2, hxs, rfl, hO, hs2, hP, rfl⟩ hnext
  repeat (first | refine yy ?_ | refine yx fun _ => ?_)
  refine gc (hasPre_ok _ _ s2 plusB) ?_
  repeat (first | refine yy ?_ | refine yx fun _ => ?_)
  have hP0 : ∀ k, (s2 = ⟨#[]⟩ ∨ preB s2 plusB = true) → rowO k s2 = some ([], s2) := fun k h => by
    cases k with
    | zero => rfl
    | succ k => rw [rowO, if_pos h]
  refine run_cond (t := !(s2.toList == (⟨#[]⟩ : ByteArray).toList) && !preB s2 plusB) rfl (fun h => ?_) (fun h => ?_)
  rotate_left
  · rw [bytes_beq] at h
    have h0 : s2 = ⟨#[]⟩ ∨ preB s2 plusB = true := by
      simp only [Bool.and_eq_false_iff, Bool.not_eq_false', decide_eq_true_eq] at h
      exact h
    rw [hP0 _ h0] at hP
    rw [hP] at hR
    repeat (first | refine yy ?_ | refine yx fun _ => ?_)
    refine run_mem (fun _ h => h.perm List.perm_middle.symm) ?_
    refine run_frzL N fun M5 hM5 hb => ?_
    refine run_retX hro ?_
    rw [strsI_flat] at hO
    exact runX_ret hC (rs := [.cell 2 60]) rfl (rl tok rfl resN) (fun _ h => hdrop h) ⟨Mem.le_trans hMM hM5, by rw [← hR]; exact ⟨⟨x.do_, x.a, x.b, x.c, x.n, x.text, ⟨a, j, c, xs⟩⟩, ⟨⟨OS.toM hO (fun l hl => by obtain ⟨x, _, rfl⟩ := List.mem_map.1 hl; rfl) (by simpa using hxs) hb, by show j < 1000000; omega⟩, by show x.text.size < _; rw [hxt]; decide⟩, by show (⟨_, _, _, _, _, _, xs⟩ : Sp) = ⟨_, _, _, _, _, _, xs ++ []⟩; rw [List.append_nil], rfl, rfl⟩⟩
  rw [bytes_beq] at h
  simp only [Bool.and_eq_true, Bool.not_eq_true', decide_eq_false_iff_not] at h
  have hpos : 0 < s2.size := Nat.pos_of_ne_zero fun h0 => h.1 (ba_nil h0)
  rw [show s1.size - j = (s1.size - (j + 1)) + 1 by omega, rowO, if_neg (by rintro (h1 | h1); exact h.1 h1; rw [h.2] at h1; cases h1)] at hP
  have hdropN : ∀ {M1 : Mem} {q1 q2 : Nat × Obj} {w : World}, Hp M1 (q1 :: (N ++ q2 :: L)) w → Hp M1 (q1 :: L) w := fun h => (h.perm (List.perm_middle.symm.trans ((List.Perm.refl N).append (List.Perm.swap _ _ _)))).dropAll.drop
  repeat (first | refine yy ?_ | refine yx fun _ => ?_)
  refine erR (hear_ok _ _ br nv s2 sp1) (fun y hy => ?_) (fun hy s' => ?_)
  rotate_left
  · rw [hy] at hP
    rw [hP] at hR
    exact runX_pan hC (fun _ h => hdropN h) ⟨hMM, by rw [← hR]; exact ⟨rfl, s', rfl⟩⟩
  rw [hy, Option.bind_some] at hP
  have hzy := hearO_1 hy
  have h1s : sp1.size = 1 := rfl
  repeat (first | refine yy ?_ | refine dd ?_ | refine yd ?_ | refine yx fun _ => ?_)
  refine erP (num_ok38 _ _ hG2 br nv y.2 (by omega) 2147483647 (by decide)) (fun z hz => ?_) (fun hz s' => ?_)
  rotate_left
  · rw [hz] at hP
    rw [hP] at hR
    exact runX_pan hC (fun _ h => hdropN h) ⟨hMM, by rw [← hR]; exact ⟨rfl, s', rfl⟩⟩
  rw [hz, Option.bind_some] at hP
  have hzz := numO_sz hz
  refine ⟨by (repeat (first | exact trivial | refine And.intro (pend_q rfl rfl rfl (by first | refine qt_pev tok rfl | refine ql tok rfl | refine qt_indexN tok rfl rfl rfl rfl (fun hy => by first | assumption | omega | (have h0 := hy.1; simp at h0; omega)) | refine qt_index tok rfl rfl rfl rfl (fun _ => by decide) | refine qt_ldM tok rfl (by first | assumption | exact Cells.le (by assumption) (by assumption)) rfl | refine qt_ldM0 tok rfl (by first | assumption | exact Cells.le (by assumption) (by assumption)) rfl | refine qt_strIndex tok rfl rfl rfl (fun _ => by assumption) | refine qt_strIndex (n := 0) tok rfl rfl rfl (fun _ => by assumption) | refine qt_strLo tok rfl rfl rfl (fun hy => by first | assumption | omega | (have h0 := hy.1; simp at h0; omega)) | refine qt_strHi tok rfl rfl rfl (fun hy => by first | assumption | omega | (have h0 := hy.1; simp at h0; omega)) | refine qt_strMid tok rfl rfl rfl rfl (fun hy => by first | assumption | omega | (have h0 := hy.1; simp at h0; omega)) | refine qt_concat rfl rfl (by first | assumption | omega | (simp only [app_size] at *; omega)) | refine qt_shr rfl rfl (fun _ => by decide) | refine qt_makeIfaceC tok rfl rfl rfl | refine qt_assertC tok rfl rfl rfl | refine qt_assertCk tok rfl rfl rfl)) ?_)), ?_⟩
  repeat (first | refine yy ?_ | refine dd ?_ | refine yd ?_ | refine yx fun _ => ?_ | (refine pe rfl (st_app1x (news := [.int .i64 z.1]) tok rfl rfl rfl rfl rfl rfl rfl rfl hO rfl (by simp [Value.oneCell']) (by omega) (by omega)) ?_; rintro _ _ _ ⟨rfl, N', a', c', rfl, rfl, hO'⟩))
  refine run_sub' (hnext _ _ _ ⟨by omega, rfl, a', c', N', xs ++ [(z.1 : Int)], z.2, by rw [List.length_append, hxs]; rfl, rfl, by rw [List.map_append]; exact hO', by omega, by rw [hP]; exact preI_cons xs z.1 _, rfl⟩) ⟨rfl, rfl, trivial⟩
end Go.Proofs.YtladcmfbkiogbaaGreatDoor
namespace Go.Proofs.YtladcmfbkiogbaaGreatDoor
open Go.Chi Go.Lib
def wNothing : ByteArray := ⟨#[110, 111, 116, 104, 105, 110, 103]⟩
def moreO : Nat → ByteArray → Option (List Sp × ByteArray)
  | 0, s => some ([], s)
  | k + 1, s => if preB s plusB = true then (estO (nextR s plusB)).bind fun x => (moreO k x.2).bind fun l => some (x.1 :: l.1, l.2) else some ([], s)
def stepsO (s : ByteArray) : Option (List Sp × ByteArray) :=
  if s = wNothing then some ([], ⟨#[]⟩) else (estO s).bind fun x => (moreO x.2.size x.2).bind fun l => some (x.1 :: l.1, l.2)
def ssK (br : Nat) (nv : Value) (M : Mem) (L : HL) (o : Option (List Sp × ByteArray)) (en : Ending) (M' : Mem) (L' : HL) : Prop :=
  M.le M' ∧ match o with
    | some x => ∃ S : SSr, SsOk M' S ∧ S.xs.map Sr.sp = x.1 ∧ en = .returned S.v ∧ L' = erB br nv x.2 :: L
    | none => en = .panicked panT ∧ ∃ s', L' = erB br nv s' :: L
def preS (xs : List Sp) (o : Option (List Sp × ByteArray)) : Option (List Sp × ByteArray) := o.map fun x => (xs ++ x.1, x.2)
theorem preS_cons (xs : List Sp) (v : Sp) (o : Option (List Sp × ByteArray)) : preS xs (o.bind fun l => some (v :: l.1, l.2)) = preS (xs ++ [v]) o := by
  cases o with
  | none => rfl
  | some x => simp [preS]
theorem rowO_sz : ∀ {k : Nat} {s : ByteArray} {x : List Int × ByteArray}, rowO k s = some x → x.2.size ≤ s.size
  | 0, s, x, h => by cases h; exact Nat.le_refl _
  | k + 1, s, x, h => by
    rw [rowO] at h
    split at h
    · cases h; exact Nat.le_refl _
    obtain ⟨y, h1, h⟩ := Option.bind_eq_some_iff.1 h
    obtain ⟨z, h2, h⟩ := Option.bind_eq_some_iff.1 h
    obtain ⟨l, h3, h⟩ := Option.bind_eq_some_iff.1 h
    cases h
    have e1 := hearO_sz h1
    have e2 := numO_sz h2
    have e3 := rowO_sz h3
    show l.2.size ≤ _; omega
theorem estO_sz {s : ByteArray} {x : Sp × ByteArray} (h : estO s = some x) : x.2.size ≤ s.size := by
  have hw := (wordO_sz s sgSp).2
  unfold estO at h
  split at h
  · cases h
  obtain ⟨y, h1, h⟩ := Option.bind_eq_some_iff.1 h
  have e1 := (fsO_sz h1).1
  split at h
  · obtain ⟨z, h2, h⟩ := Option.bind_eq_some_iff.1 h
    obtain ⟨t, h3, h⟩ := Option.bind_eq_some_iff.1 h
    have e2 := hearO_sz h2
    have e3 := (termO_sz h3).2
    split at h
    · cases h; show t.2.size ≤ _; omega
    · cases h
  split at h
  · obtain ⟨z, h2, h⟩ := Option.bind_eq_some_iff.1 h
    cases h
    have e2 := rowO_sz h2
    show z.2.size ≤ _; omega
  · cases h; omega
theorem srC_one (r : Sr) : ∀ u ∈ srC r, u.oneCell' = true := by
  intro u hu
  simp only [srC, List.mem_cons, List.not_mem_nil, or_false] at hu
  rcases hu with rfl | rfl | rfl | rfl | rfl | rfl | rfl <;> rfl
theorem srR {br : Nat} {nv : Value} {C : Cx} {n : Nat} {ops : Array Oper} {l : List Oper} {k : List Item} {ds : List Deferred} {σ : Env} {δ : Den} {M : Mem} {L L0 : HL} {o : Option (Sp × ByteArray)} {g : FuncId} {vs : List Value} {d : Nat} {ty : TypeId} {pos : String} {aft : Array Edge} {args : Array Operand} {tys : Array TypeId}
    (ht : TrE Tryz.prog g vs M L (srK br nv M L0 o)) (h : ∀ x M', o = some x → M.le M' → ∀ r : Sr, SrOk M' r → r.sp = x.1 → RunL Tryz.prog C n ops l k ds ((d, .agg ⟨srC r⟩) :: σ) δ M' (erB br nv x.2 :: L0)) (hp : o = none → ∀ M' s', M.le M' → RunX Tryz.prog C n (.panicking panT) ds σ M' (erB br nv s' :: L0)) (ha : evs σ δ [] args.toList = some vs := by exact rfl) (hd : Nat.blt d n = true := by exact rfl) (hn : lkd δ d = none := by exact rfl) (hu : unNamed δ d = true := by exact rfl) :
    RunL Tryz.prog C n ops (⟨some d, .call ⟨.value (.func g), args, tys⟩, ty, pos, aft, none⟩ :: l) k ds σ δ M L := by
  refine ec ht ?_ ?_ ha hd hn hu
  · rintro v M' _ ⟨hM, hv⟩
    cases o with
    | none => cases hv.1
    | some x => obtain ⟨r, h1, h2, hv, rfl⟩ := hv; cases hv; exact h x M' rfl hM r h1 h2
  · rintro ch M' _ ⟨hM, hv⟩
    cases o with
    | none => obtain ⟨hv, s', rfl⟩ := hv; cases hv; exact hp rfl M' s' hM
    | some x => obtain ⟨_, _, _, hv, _⟩ := hv; cases hv
set_option maxHeartbeats 16000000 in
theorem esteps_ok (M : Mem) (L : HL) (hG : G38 M) (br : Nat) (nv : Value) (s : ByteArray) (hs : s.size < 1000000) : TrE Tryz.prog 98 [pt br] M (erB br nv s :: L) (ssK br nv M L (stepsO s)) := by
  obtain ⟨R, hR⟩ : ∃ R, stepsO s = R := ⟨_, rfl⟩
  rw [hR]
  rw [stepsO] at hR
  refine TrE.intro 24 Tryz.func98 rfl rfl Tryz.call98 rfl ?_; intro C hC hro
  repeat (first | refine yy ?_ | refine yx fun _ => ?_)
  refine run_cond (t := s.toList == wNothing.toList) rfl (fun h => ?_) (fun h => ?_)
  · rw [bytes_beq] at h
    rw [if_pos (by simpa using h)] at hR
    repeat (first | refine yy ?_ | refine yx fun _ => ?_)
    refine run_retX hro ?_
    exact runX_ret hC (rs := [.tmp 2]) rfl (resT rfl resN) (fun _ h => h) ⟨Mem.le_refl _, by rw [← hR]; exact ⟨⟨none, 0, 0, []⟩, ⟨⟨rfl, (fun _ h => by cases h), .inl rfl⟩, by decide, fun _ h => by cases h⟩, rfl, rfl, rfl⟩⟩
  rw [bytes_beq] at h
  rw [if_neg (by simpa using h)] at hR
  repeat (first | refine yy ?_ | refine yx fun _ => ?_)
  refine srR (estep_ok _ _ hG br nv s hs) (fun x M1 hx hM1 r hr hrx => ?_) (fun hx M1 s' hM1 => ?_)
  rotate_left
  · rw [hx] at hR
    exact runX_pan hC (fun _ h => h) ⟨hM1, by rw [← hR]; exact ⟨rfl, s', rfl⟩⟩
  rw [hx, Option.bind_some] at hR
  have hzx := estO_sz hx
  repeat (first | refine yy ?_ | refine yx fun _ => ?_ | (refine runL_op (st_app1x (N := []) (xs := []) (news := srC r) tok rfl rfl rfl rfl rfl rfl rfl rfl (.inl ⟨rfl, rfl, rfl, rfl⟩) rfl (srC_one r) (by decide) (by decide)) rfl rfl rfl ?_; rintro _ _ _ ⟨rfl, N, a, c, rfl, rfl, hO⟩))
  refine run_loopN (fun j σ1 M3 L3 => j ≤ x.2.size ∧ M.le M3 ∧ ∃ a c N rs s2, rs.length = j + 1 ∧ L3 = erB br nv s2 :: (N ++ L) ∧ OS 60 7 (.slice a (j + 1) c) (j + 1) (rs.map srC).flatten N ∧ (∀ r ∈ rs, SrOk M3 r) ∧ s2.size + 3 * j ≤ x.2.size ∧ R = preS (rs.map Sr.sp) (moreO (x.2.size - j) s2) ∧ σ1 = [(2, .slice a (j + 1) c), (0, pt br)]) x.2.size [(2, .slice a 1 c), (0, pt br)] ?_ ⟨Nat.zero_le _, hM1, a, c, N, [r], x.2, rfl, rfl, hO, (fun q hq => by obtain rfl := List.mem_singleton.1 hq; exact hr), Nat.le_refl _, by rw [← hR, Nat.sub_zero, List.map_singleton, hrx]; cases moreO x.2.size x.2 <;> rfl, rfl⟩ (fun j _ _ _ h => h.1) ?_
  · exact ⟨rfl, rfl, trivial⟩
  clear hO
  rintro j _ M3 _ ⟨hj, hM3, a, c, N, rs, s2, hrs, rfl, hO, hok, hs2, hP, rfl⟩ hnext
  have hG3 := hG.le hM3
  repeat (first | refine yy ?_ | refine yx fun _ => ?_ | (refine oc (comes_ok _ _ br nv s2 plusB) ?_; rintro _ M4 _ ⟨hM4, rfl, rfl⟩))
  subst hM4
  refine run_cond (t := preB s2 plusB) rfl (fun h1 => ?_) (fun h1 => ?_)
  rotate_left
  · have h0 : ∀ k, moreO k s2 = some ([], s2) := fun k => by
      cases k with
      | zero => rfl
      | succ k => rw [moreO, if_neg (by rw [h1]; decide)]
    rw [h0] at hP
    rw [nextF h1]
    repeat (first | refine yy ?_ | refine yx fun _ => ?_)
    refine run_mem (fun _ h => h.perm List.perm_middle.symm) ?_
    refine run_frzL N fun M5 hM5 hb => ?_
    refine run_retX hro ?_
    exact runX_ret hC (rs := [.tmp 2]) rfl (resT rfl resN) (fun _ h => h) ⟨Mem.le_trans hM3 hM5, by rw [hP]; exact ⟨⟨a, j + 1, c, rs⟩, ⟨OS.toM hO (fun l hl => by obtain ⟨x, _, rfl⟩ := List.mem_map.1 hl; rfl) (by simpa using hrs) hb, by show j + 1 < 1000000; omega, fun x hx => (hok x hx).le hM5⟩, (List.append_nil _).symm, rfl, rfl⟩⟩
  have hp3 : (3 : Nat) ≤ s2.size := pre_size h1
  have hn3 : (nextR s2 plusB).size + 3 = s2.size := by rw [nextR, if_pos h1, ByteArray.size_extract, show plusB.size = 3 from rfl]; omega
  rw [show x.2.size - j = (x.2.size - (j + 1)) + 1 by omega, moreO, if_pos h1] at hP
  repeat (first | refine yy ?_ | refine yx fun _ => ?_)
  refine srR (estep_ok _ _ hG3 br nv (nextR s2 plusB) (by omega)) (fun y M4 hy hM4 r' hr' hry => ?_) (fun hy M4 s' hM4 => ?_)
  rotate_left
  · rw [hy] at hP
    exact runX_pan hC (fun _ h => (h.perm List.perm_middle.symm).dropAll) ⟨Mem.le_trans hM3 hM4, by rw [hP]; exact ⟨rfl, s', rfl⟩⟩
  rw [hy, Option.bind_some] at hP
  have hzy := estO_sz hy
  repeat (first | refine yy ?_ | refine yx fun _ => ?_ | (refine runL_op (st_app1x (news := srC r') tok rfl rfl rfl rfl rfl rfl rfl rfl hO rfl (srC_one r') (by omega) (by omega)) rfl rfl rfl ?_; rintro _ _ _ ⟨rfl, N', a', c', rfl, rfl, hO'⟩))
  refine run_sub' (hnext _ _ _ ⟨by omega, Mem.le_trans hM3 hM4, a', c', N', rs ++ [r'], y.2, by rw [List.length_append, hrs]; rfl, rfl, by rw [List.map_append, List.flatten_append]; simpa using hO', ?_, by omega, by rw [hP, List.map_append, List.map_singleton, hry]; exact preS_cons _ _ _, rfl⟩) ⟨rfl, rfl, trivial⟩
  intro q hq
  rcases List.mem_append.1 hq with hq | hq
  · exact (hok q hq).le hM4
  · obtain rfl := List.mem_singleton.1 hq
    exact hr'
end Go.Proofs.YtladcmfbkiogbaaGreatDoor
namespace Go.Proofs.YtladcmfbkiogbaaGreatDoor
open Go.Chi Go.Lib
def colB : ByteArray := ⟨#[58, 32]⟩
def semB : ByteArray := ⟨#[59, 32]⟩
def wAnew : ByteArray := ⟨#[32, 97, 110, 101, 119]⟩
def wFor : ByteArray := ⟨#[32, 102, 111, 114, 32]⟩
def gvO (names : List ByteArray) : Nat → ByteArray → ByteArray → Option (List Mb × ByteArray)
  | 0, _, s => some ([], s)
  | k + 1, sg, s => if s = ⟨#[]⟩ then some ([], s) else (hearO s sg).bind fun y => (orgO names y.2).bind fun z => (hearO z.2 sp1).bind fun u => (termO u.2 semB).bind fun t => (gvO names k semB t.2).bind fun l => some (⟨z.1, t.1⟩ :: l.1, l.2)
def begO (names : List ByteArray) (o : Int) (s : ByteArray) : Option (Aa × ByteArray) :=
  if s = wAnew then some (⟨8, o, 0, 0, [], tz, false, []⟩, ⟨#[]⟩) else
    (hearO s wFor).bind fun y => (orgO names y.2).bind fun z => (gvO names z.2.size colB z.2).bind fun g => some (⟨1, o, z.1, 0, g.1, tz, false, []⟩, g.2)
def noS : SSr := ⟨none, 0, 0, []⟩
def noG : SMb := ⟨none, 0, 0, []⟩
theorem noS_ok (M : Mem) : SsOk M noS := ⟨⟨rfl, (fun _ h => by cases h), .inl rfl⟩, by decide, fun _ h => by cases h⟩
abbrev acB (b : Nat) (x : Ax) : Nat × Obj := (b, .cells ⟨axC x⟩ 28 (0, 0))
def axO (o : Int) : Ax := ⟨0, o, 0, 0, noG, tz, false, noS⟩
def acK (br ba : Nat) (nv : Value) (M : Mem) (L : HL) (o : Option (Aa × ByteArray)) (en : Ending) (M' : Mem) (L' : HL) : Prop :=
  M.le M' ∧ match o with
    | some x => ∃ ax : Ax, AxOk M' ax ∧ ax.aa = x.1 ∧ en = .returned (.tuple ⟨[]⟩) ∧ L' = erB br nv x.2 :: acB ba ax :: L
    | none => en = .panicked panT ∧ ∃ s' q, L' = erB br nv s' :: q :: L
def preG (xs : List Mb) (o : Option (List Mb × ByteArray)) : Option (List Mb × ByteArray) := o.map fun x => (xs ++ x.1, x.2)
theorem preG_cons (xs : List Mb) (v : Mb) (o : Option (List Mb × ByteArray)) : preG xs (o.bind fun l => some (v :: l.1, l.2)) = preG (xs ++ [v]) o := by
  cases o with
  | none => rfl
  | some x => simp [preG]
theorem mbC_one (m : Mb) : ∀ u ∈ mbC m, u.oneCell' = true := by
  intro u hu
  simp only [mbC, List.mem_cons, List.not_mem_nil, or_false] at hu
  rcases hu with rfl | rfl <;> rfl
set_option maxHeartbeats 32000000 in
theorem begun_ok' (M : Mem) (L : HL) (br ba : Nat) (o : Int) (S : SStr) (hS : StOk M S) (s : ByteArray) (hs : s.size < 1000000) : TrE Tryz.prog 95 [pt br, pt ba] M (erB br S.v s :: acB ba (axO o) :: L) (acK br ba S.v M L (begO S.xs o s)) := by
  obtain ⟨R, hR⟩ : ∃ R, begO S.xs o s = R := ⟨_, rfl⟩
  rw [hR]
  rw [begO] at hR
  refine TrE.intro 52 Tryz.func95 rfl rfl Tryz.call95 rfl ?_; intro C hC hro
  repeat (first | refine yy ?_ | refine yx fun _ => ?_)
  refine run_cond (t := s.toList == wAnew.toList) rfl (fun h => ?_) (fun h => ?_)
  · rw [bytes_beq] at h
    rw [if_pos (by simpa using h)] at hR
    repeat (first | refine yy ?_ | refine yx fun _ => ?_)
    refine run_retX hro ?_
    exact runX_ret hC (rs := []) rfl (vs := []) trivial (fun _ h => h) ⟨Mem.le_refl _, by rw [← hR]; exact ⟨⟨8, o, 0, 0, noG, tz, false, noS⟩, ⟨MbOk.nil _, noS_ok _, (fun _ h => by cases h)⟩, rfl, rfl, rfl⟩⟩
  rw [bytes_beq] at h
  rw [if_neg (by simpa using h)] at hR
  repeat (first | refine yy ?_ | refine yx fun _ => ?_)
  refine erR (hear_ok _ _ br _ s wFor) (fun y hy => ?_) (fun hy s' => ?_)
  rotate_left
  · rw [hy] at hR
    exact runX_pan hC (fun _ h => h) ⟨Mem.le_refl _, by rw [← hR]; exact ⟨rfl, s', _, rfl⟩⟩
  rw [hy, Option.bind_some] at hR
  have hzy := hearO_sz hy
  repeat (first | refine yy ?_ | refine yx fun _ => ?_)
  refine erR (org_ok _ _ br S hS y.2 (by omega)) (fun z hz => ?_) (fun hz s' => ?_)
  rotate_left
  · rw [hz] at hR
    exact runX_pan hC (fun _ h => h) ⟨Mem.le_refl _, by rw [← hR]; exact ⟨rfl, s', _, rfl⟩⟩
  rw [hz, Option.bind_some] at hR
  have hzz := orgO_sz hz
  repeat (first | refine yy ?_ | refine yx fun _ => ?_)
  refine run_loopN (fun j σ1 M3 L3 => j ≤ z.2.size ∧ M = M3 ∧ ∃ a c N ms s2, ms.length = j ∧ L3 = erB br S.v s2 :: (N ++ acB ba ⟨1, o, z.1, 0, ⟨a, j, c, ms⟩, tz, false, noS⟩ :: L) ∧ OS 57 2 (.slice a j c) j (ms.map mbC).flatten N ∧ (∀ m ∈ ms, m.digest.size < 1099511627776) ∧ s2.size + 2 * j ≤ z.2.size ∧ gvO S.xs z.2.size colB z.2 = preG ms (gvO S.xs (z.2.size - j) (if j = 0 then colB else semB) s2) ∧ σ1 = [(4, .string (if j = 0 then colB else semB)), (0, pt br), (1, pt ba)]) z.2.size [(4, .string colB), (0, pt br), (1, pt ba)] ?_ ⟨Nat.zero_le _, rfl, none, 0, [], [], z.2, rfl, rfl, .inl ⟨rfl, rfl, rfl, rfl⟩, (fun _ h => by cases h), Nat.le_refl _, by rw [Nat.sub_zero, if_pos rfl, preG]; cases gvO S.xs z.2.size colB z.2 <;> rfl, rfl⟩ (fun j _ _ _ h => h.1) ?_
  · exact ⟨rfl, rfl, rfl, trivial⟩
  rintro j _ _ _ ⟨hj, rfl, a, c, N, ms, s2, hms, rfl, hO, hpay, hs2, hP, rfl⟩ hnext
  generalize hsg : (if j = 0 then colB else semB) = sg at hP
  have hsg2 : sg.size = 2 := by rw [← hsg]; split <;> rfl
  repeat (first | refine yy ?_ | refine yx fun _ => ?_)
  have hP0 : ∀ k, s2 = ⟨#[]⟩ → gvO S.xs k sg s2 = some ([], s2) := fun k h => by
    cases k with
    | zero => rfl
    | succ k => rw [gvO, if_pos h]
  refine run_cond (t := !(s2.toList == (⟨#[]⟩ : ByteArray).toList)) rfl (fun h => ?_) (fun h => ?_)
  rotate_left
  · rw [bytes_beq] at h
    rw [hP0 _ (by simpa using h)] at hP
    rw [hP] at hR
    repeat (first | refine yy ?_ | refine yx fun _ => ?_)
    refine run_mem (fun _ h => h.perm List.perm_middle.symm) ?_
    refine run_frzL N fun M5 hM5 hb => ?_
    refine run_endX hro ?_
    exact runX_ret hC (rs := []) rfl (vs := []) trivial (fun _ h => h) ⟨hM5, by rw [← hR]; exact ⟨_, ⟨⟨OS.toM hO (fun l hl => by obtain ⟨x, _, rfl⟩ := List.mem_map.1 hl; rfl) (by simpa using hms) hb, by show j < 1000000; omega⟩, noS_ok _, hpay⟩, by show (⟨_, _, _, _, ms, _, _, _⟩ : Aa) = ⟨_, _, _, _, ms ++ [], _, _, _⟩; rw [List.append_nil]; rfl, rfl, rfl⟩⟩
  rw [bytes_beq] at h
  have h0 : s2 ≠ ⟨#[]⟩ := by simpa using h
  have hpos : 0 < s2.size := Nat.pos_of_ne_zero fun h1 => h0 (ba_nil h1)
  rw [show z.2.size - j = (z.2.size - (j + 1)) + 1 by omega, gvO, if_neg h0] at hP
  have hdropN : ∀ {M1 : Mem} {q1 : Nat × Obj} {L1 : HL} {w : World}, Hp M1 (q1 :: (N ++ L1)) w → Hp M1 (q1 :: L1) w := fun h => (h.perm List.perm_middle.symm).dropAll
  repeat (first | refine yy ?_ | refine yx fun _ => ?_)
  refine erR (hear_ok _ _ br _ s2 sg) (fun y1 hy => ?_) (fun hy s' => ?_)
  rotate_left
  · rw [hy] at hP
    rw [hP] at hR
    exact runX_pan hC (fun _ h => hdropN h) ⟨Mem.le_refl _, by rw [← hR]; exact ⟨rfl, s', _, rfl⟩⟩
  rw [hy, Option.bind_some] at hP
  have hzy1 := hearO_1 hy
  repeat (first | refine yy ?_ | refine yx fun _ => ?_)
  refine erR (org_ok _ _ br S hS y1.2 (by omega)) (fun z1 hz1 => ?_) (fun hz1 s' => ?_)
  rotate_left
  · rw [hz1] at hP
    rw [hP] at hR
    exact runX_pan hC (fun _ h => hdropN h) ⟨Mem.le_refl _, by rw [← hR]; exact ⟨rfl, s', _, rfl⟩⟩
  rw [hz1, Option.bind_some] at hP
  have hzz1 := orgO_sz hz1
  repeat (first | refine yy ?_ | refine yx fun _ => ?_)
  refine erR (hear_ok _ _ br _ z1.2 sp1) (fun u hu => ?_) (fun hu s' => ?_)
  rotate_left
  · rw [hu] at hP
    rw [hP] at hR
    exact runX_pan hC (fun _ h => hdropN h) ⟨Mem.le_refl _, by rw [← hR]; exact ⟨rfl, s', _, rfl⟩⟩
  rw [hu, Option.bind_some] at hP
  have hzu := hearO_sz hu
  repeat (first | refine yy ?_ | refine dd ?_ | refine yd ?_ | refine yx fun _ => ?_)
  refine erP (eterm_ok _ _ br _ u.2 semB (by omega)) (fun t ht => ?_) (fun ht s' => ?_)
  rotate_left
  · rw [ht] at hP
    rw [hP] at hR
    exact runX_pan hC (fun _ h => hdropN h) ⟨Mem.le_refl _, by rw [← hR]; exact ⟨rfl, s', _, rfl⟩⟩
  rw [ht, Option.bind_some] at hP
  have hzt := termO_sz ht
  refine ⟨by (repeat (first | exact trivial | refine And.intro (pend_q rfl rfl rfl (by first | refine qt_pev tok rfl | refine ql tok rfl | refine qt_indexN tok rfl rfl rfl rfl (fun hy => by first | assumption | omega | (have h0 := hy.1; simp at h0; omega)) | refine qt_index tok rfl rfl rfl rfl (fun _ => by decide) | refine qt_ldM tok rfl (by first | assumption | exact Cells.le (by assumption) (by assumption)) rfl | refine qt_ldM0 tok rfl (by first | assumption | exact Cells.le (by assumption) (by assumption)) rfl | refine qt_strIndex tok rfl rfl rfl (fun _ => by assumption) | refine qt_strIndex (n := 0) tok rfl rfl rfl (fun _ => by assumption) | refine qt_strLo tok rfl rfl rfl (fun hy => by first | assumption | omega | (have h0 := hy.1; simp at h0; omega)) | refine qt_strHi tok rfl rfl rfl (fun hy => by first | assumption | omega | (have h0 := hy.1; simp at h0; omega)) | refine qt_strMid tok rfl rfl rfl rfl (fun hy => by first | assumption | omega | (have h0 := hy.1; simp at h0; omega)) | refine qt_concat rfl rfl (by first | assumption | omega | (simp only [app_size] at *; omega)) | refine qt_shr rfl rfl (fun _ => by decide) | refine qt_makeIfaceC tok rfl rfl rfl | refine qt_assertC tok rfl rfl rfl | refine qt_assertCk tok rfl rfl rfl)) ?_)), ?_⟩
  repeat (first | refine yy ?_ | refine dd ?_ | refine yd ?_ | refine yx fun _ => ?_)
  refine po rfl (st_app1x (n := j) (news := mbC ⟨z1.1, t.1⟩) tok rfl rfl rfl rfl rfl rfl rfl rfl hO rfl (mbC_one _) (by omega) (by omega)) ?_
  rintro _ _ _ ⟨rfl, N', a', c', rfl, rfl, hO'⟩
  refine ⟨by (repeat (first | exact trivial | refine And.intro (pend_q rfl rfl rfl (by first | refine qt_pev tok rfl | refine ql tok rfl | refine qt_indexN tok rfl rfl rfl rfl (fun hy => by first | assumption | omega | (have h0 := hy.1; simp at h0; omega)) | refine qt_index tok rfl rfl rfl rfl (fun _ => by decide) | refine qt_ldM tok rfl (by first | assumption | exact Cells.le (by assumption) (by assumption)) rfl | refine qt_ldM0 tok rfl (by first | assumption | exact Cells.le (by assumption) (by assumption)) rfl | refine qt_strIndex tok rfl rfl rfl (fun _ => by assumption) | refine qt_strIndex (n := 0) tok rfl rfl rfl (fun _ => by assumption) | refine qt_strLo tok rfl rfl rfl (fun hy => by first | assumption | omega | (have h0 := hy.1; simp at h0; omega)) | refine qt_strHi tok rfl rfl rfl (fun hy => by first | assumption | omega | (have h0 := hy.1; simp at h0; omega)) | refine qt_strMid tok rfl rfl rfl rfl (fun hy => by first | assumption | omega | (have h0 := hy.1; simp at h0; omega)) | refine qt_concat rfl rfl (by first | assumption | omega | (simp only [app_size] at *; omega)) | refine qt_shr rfl rfl (fun _ => by decide) | refine qt_makeIfaceC tok rfl rfl rfl | refine qt_assertC tok rfl rfl rfl | refine qt_assertCk tok rfl rfl rfl)) ?_)), ?_⟩
  repeat (first | refine yy ?_ | refine dd ?_ | refine yd ?_ | refine yx fun _ => ?_)
  refine run_sub' (hnext _ _ _ ⟨by omega, rfl, a', c', N', ms ++ [⟨z1.1, t.1⟩], t.2, by rw [List.length_append, hms]; rfl, rfl, by rw [List.map_append, List.flatten_append]; simpa using hO', ?_, by omega, by rw [hP, if_neg (Nat.succ_ne_zero _)]; exact preG_cons _ _ _, rfl⟩) ⟨by rw [if_neg (Nat.succ_ne_zero _)]; rfl, rfl, rfl, trivial⟩
  intro q hq
  rcases List.mem_append.1 hq with hq | hq
  · exact hpay q hq
  · obtain rfl := List.mem_singleton.1 hq
    show t.1.size < _; omega
end Go.Proofs.YtladcmfbkiogbaaGreatDoor
namespace Go.Proofs.YtladcmfbkiogbaaGreatDoor
open Go.Chi Go.Lib
def wPost : ByteArray := ⟨#[112, 111, 115, 116, 32]⟩
def wComes : ByteArray := ⟨#[32, 99, 111, 109, 101, 115]⟩
def wBegins : ByteArray := ⟨#[98, 101, 103, 105, 110, 115]⟩
def wSays : ByteArray := ⟨#[115, 97, 121, 115]⟩
def wYes : ByteArray := ⟨#[32, 121, 101, 115]⟩
def wNo : ByteArray := ⟨#[32, 110, 111]⟩
def wTo : ByteArray := ⟨#[32, 116, 111, 32]⟩
def wTicks : ByteArray := ⟨#[116, 105, 99, 107, 115]⟩
def wGets : ByteArray := ⟨#[103, 101, 116, 115]⟩
def wJudges : ByteArray := ⟨#[106, 117, 100, 103, 101, 115]⟩
def wStops : ByteArray := ⟨#[115, 116, 111, 112, 115]⟩
def wBehind : ByteArray := ⟨#[32, 98, 101, 104, 105, 110, 100, 32]⟩
def wCrashes : ByteArray := ⟨#[99, 114, 97, 115, 104, 101, 115]⟩
def wKeeps : ByteArray := ⟨#[32, 97, 110, 100, 32, 107, 101, 101, 112, 115, 32]⟩
def wShows : ByteArray := ⟨#[115, 104, 111, 119, 115]⟩
def dig0 (r : ByteArray) : Bool := match r.data.toList with
  | [] => false
  | b :: _ => decide ((b.toNat : Int) ≥ 48) && decide ((b.toNat : Int) ≤ 57)
def postQ (s : ByteArray) : Bool := preB s wPost && dig0 (nextR s wPost)
def postO (s : ByteArray) : Option (Aa × ByteArray) := (numO 2147483647 s).bind fun z => (hearO z.2 wComes).bind fun y => some (⟨4, 0, 0, z.1, [], tz, false, []⟩, y.2)
def yesO (s : ByteArray) : Option (Bool × ByteArray) := if preB s wYes = true then some (true, nextR s wYes) else (hearO s wNo).bind fun y => some (false, y.2)
def saysO (names : List ByteArray) (o : Int) (s : ByteArray) : Option (Aa × ByteArray) :=
  (yesO s).bind fun y => (hearO y.2 wTo).bind fun z => (txnO names z.2).bind fun t => some (⟨2, o, 0, 0, [], t.1, y.1, []⟩, t.2)
def stpO (d o : Int) (s : ByteArray) : Option (Aa × ByteArray) := (hearO s sp1).bind fun y => (stepsO y.2).bind fun l => some (⟨d, o, 0, 0, [], tz, false, l.1⟩, l.2)
def nmO (d o : Int) (w s : ByteArray) : Option (Aa × ByteArray) := (hearO s w).bind fun y => (numO 2147483647 y.2).bind fun z => some (⟨d, o, 0, z.1, [], tz, false, []⟩, z.2)
def shwO (names : List ByteArray) (o : Int) (s : ByteArray) : Option (Aa × ByteArray) := (hearO s sp1).bind fun y => (txnO names y.2).bind fun t => some (⟨9, o, 0, 0, [], t.1, false, []⟩, t.2)
def verbO (names : List ByteArray) (o : Int) (w s : ByteArray) : Option (Aa × ByteArray) :=
  if w = wBegins then begO names o s else if w = wSays then saysO names o s else if w = wTicks then some (⟨3, o, 0, 0, [], tz, false, []⟩, s)
  else if w = wGets then stpO 5 o s else if w = wJudges then stpO 10 o s else if w = wStops then nmO 6 o wBehind s else if w = wCrashes then nmO 7 o wKeeps s else if w = wShows then shwO names o s else none
def actO (names : List ByteArray) (s : ByteArray) : Option (Aa × ByteArray) :=
  if postQ s = true then postO (nextR s wPost) else (orgO names s).bind fun o => (hearO o.2 sp1).bind fun y => verbO names o.1 (wordO y.2 sgSp).1 (wordO y.2 sgSp).2
def apK (br : Nat) (nv : Value) (M : Mem) (L : HL) (o : Option (Aa × ByteArray)) (en : Ending) (M' : Mem) (L' : HL) : Prop :=
  M.le M' ∧ match o with
    | some x => ∃ ax : Ax, AxOk M' ax ∧ ax.aa = x.1 ∧ en = .returned (.agg ⟨axC ax⟩) ∧ L' = erB br nv x.2 :: L
    | none => en = .panicked panT ∧ ∃ s', L' = erB br nv s' :: L
theorem yi {A B : Prop} (h : A) (hs : A → B := by
  first
  | with_reducible first | exact zS | exact zR | exact zN | exact zK | exact zB
  | exact zE rfl
  | exact fun h => vq h | exact fun h => vg h | exact fun h => ws h) : B := hs h
theorem acR {br ba : Nat} {nv : Value} {C : Cx} {n : Nat} {ops : Array Oper} {l : List Oper} {k : List Item} {ds : List Deferred} {σ : Env} {δ : Den} {M : Mem} {L L0 : HL} {o : Option (Aa × ByteArray)} {g : FuncId} {vs : List Value} {d : Nat} {ty : TypeId} {pos : String} {aft : Array Edge} {args : Array Operand} {tys : Array TypeId}
    (ht : TrE Tryz.prog g vs M L (acK br ba nv M L0 o)) (h : ∀ x M', o = some x → M.le M' → ∀ ax : Ax, AxOk M' ax → ax.aa = x.1 → RunL Tryz.prog C n ops l k ds ((d, .tuple ⟨[]⟩) :: σ) δ M' (erB br nv x.2 :: acB ba ax :: L0)) (hp : o = none → ∀ M' s' q, M.le M' → RunX Tryz.prog C n (.panicking panT) ds σ M' (erB br nv s' :: q :: L0)) (ha : evs σ δ [] args.toList = some vs := by exact rfl) (hd : Nat.blt d n = true := by exact rfl) (hn : lkd δ d = none := by exact rfl) (hu : unNamed δ d = true := by exact rfl) :
    RunL Tryz.prog C n ops (⟨some d, .call ⟨.value (.func g), args, tys⟩, ty, pos, aft, none⟩ :: l) k ds σ δ M L := by
  refine ec ht ?_ ?_ ha hd hn hu
  · rintro v M' _ ⟨hM, hv⟩
    cases o with
    | none => cases hv.1
    | some x => obtain ⟨r, h1, h2, hv, rfl⟩ := hv; cases hv; exact h x M' rfl hM r h1 h2
  · rintro ch M' _ ⟨hM, hv⟩
    cases o with
    | none => obtain ⟨hv, s', q, rfl⟩ := hv; cases hv; exact hp rfl M' s' q hM
    | some x => obtain ⟨_, _, _, hv, _⟩ := hv; cases hv
theorem ssR {br : Nat} {nv : Value} {C : Cx} {n : Nat} {ops : Array Oper} {l : List Oper} {k : List Item} {ds : List Deferred} {σ : Env} {δ : Den} {M : Mem} {L L0 : HL} {o : Option (List Sp × ByteArray)} {g : FuncId} {vs : List Value} {d : Nat} {ty : TypeId} {pos : String} {aft : Array Edge} {args : Array Operand} {tys : Array TypeId}
    (ht : TrE Tryz.prog g vs M L (ssK br nv M L0 o)) (h : ∀ x M', o = some x → M.le M' → ∀ S : SSr, SsOk M' S → S.xs.map Sr.sp = x.1 → RunL Tryz.prog C n ops l k ds ((d, S.v) :: σ) δ M' (erB br nv x.2 :: L0)) (hp : o = none → ∀ M' s', M.le M' → RunX Tryz.prog C n (.panicking panT) ds σ M' (erB br nv s' :: L0)) (ha : evs σ δ [] args.toList = some vs := by exact rfl) (hd : Nat.blt d n = true := by exact rfl) (hn : lkd δ d = none := by exact rfl) (hu : unNamed δ d = true := by exact rfl) :
    RunL Tryz.prog C n ops (⟨some d, .call ⟨.value (.func g), args, tys⟩, ty, pos, aft, none⟩ :: l) k ds σ δ M L := by
  refine ec ht ?_ ?_ ha hd hn hu
  · rintro v M' _ ⟨hM, hv⟩
    cases o with
    | none => cases hv.1
    | some x => obtain ⟨r, h1, h2, hv, rfl⟩ := hv; cases hv; exact h x M' rfl hM r h1 h2
  · rintro ch M' _ ⟨hM, hv⟩
    cases o with
    | none => obtain ⟨hv, s', rfl⟩ := hv; cases hv; exact hp rfl M' s' hM
    | some x => obtain ⟨_, _, _, hv, _⟩ := hv; cases hv
theorem trim_next {s p : ByteArray} (h : preB s p = true) : bs (trimPrefix s.data.toList p.data.toList) = nextR s p := by
  apply ba_ext
  have h' : hasPrefix s.data.toList p.data.toList = true := h
  rw [nextR, if_pos h, ba_extract, List.take_of_length_le (by rw [ba_len]; exact Nat.le_refl _), trimPrefix, if_pos h', ba_len]
theorem axTx_ok {M : Mem} {o n d : Int} {t : Tx} {y : Bool} : AxOk M ⟨d, o, 0, n, noG, t, y, noS⟩ := ⟨MbOk.nil _, noS_ok _, fun _ h => by cases h⟩
set_option maxHeartbeats 64000000 in
theorem act_ok (M : Mem) (L : HL) (hG : G38 M) (br : Nat) (S : SStr) (hS : StOk M S) (s : ByteArray) (hs : s.size < 1000000) : TrE Tryz.prog 53 [pt br] M (erB br S.v s :: L) (apK br S.v M L (actO S.xs s)) := by
  obtain ⟨R, hR⟩ : ∃ R, actO S.xs s = R := ⟨_, rfl⟩
  rw [hR]
  rw [actO] at hR
  have hns := next_le s wPost
  have hdrop : ∀ {M1 : Mem} {q1 q2 : Nat × Obj} {w : World}, Hp M1 (q1 :: q2 :: L) w → Hp M1 (q1 :: L) w := fun h => (h.perm (List.Perm.swap _ _ _)).drop
  have hcp : ∀ L, TrQ Tryz.prog 90 [.string s, .string wPost] M L (.tuple ⟨[.string (bs (trimPrefix s.data.toList wPost.data.toList)), .bool (preB s wPost)]⟩) := fun L => cutPrefix_ok M L s wPost
  refine TrE.intro 111 Tryz.func53 rfl rfl Tryz.call53 rfl ?_; intro C hC hro
  refine run_seq ?_
  refine run_region ?_
  refine yx fun ab => ?_
  refine runL_nil ?_
  refine run_mem (fun _ h => h.perm (List.Perm.swap _ _ _)) ?_
  repeat (first | refine zc ?_ | refine vq ?_)
  refine qc (hcp _) ?_
  iterate 7 refine yy ?_
  have hr0 : preB s wPost = true → bs (trimPrefix s.data.toList wPost.data.toList) = nextR s wPost := trim_next
  generalize bs (trimPrefix s.data.toList wPost.data.toList) = r at hr0
  refine run_cut (fun σ' M' L' => σ' = [(27, .bool (postQ s)), (3, .string r), (2, pt ab), (0, pt br)] ∧ M = M' ∧ L' = erB br S.v s :: acB ab (⟨0, 0, 0, 0, noG, tz, false, noS⟩) :: L) ?_ ?_
  rotate_left
  · intro hk
    cases hpre : preB s wPost with
    | false =>
      repeat (first | refine yk ?_ | refine yx fun _ => ?_)
      exact run_sub' (hk _ _ _ ⟨rfl, rfl, rfl⟩) ⟨by rw [postQ, hpre]; rfl, rfl, rfl, rfl, trivial⟩
    | true =>
      have hr := hr0 hpre
      by_cases h0 : r = ⟨#[]⟩
      · subst h0
        have hq : postQ s = false := by rw [postQ, hpre, ← hr]; rfl
        iterate 6 refine yk ?_
        refine runL_as 17 (.bool false) rfl (by congr 1; rw [bytes_beq]; simp) ?_
        repeat (first | refine yk ?_ | refine yx fun _ => ?_)
        exact run_sub' (hk _ _ _ ⟨rfl, rfl, rfl⟩) ⟨by rw [hq]; rfl, rfl, rfl, rfl, trivial⟩
      · obtain ⟨b, hb⟩ : ∃ b : UInt8, r[0]? = some b := ⟨_, getElem?_pos r 0 (Nat.pos_of_ne_zero fun h => h0 (ba_nil h))⟩
        have hbl := (ba_get r 0).symm.trans hb
        have hq : postQ s = (decide ((b.toNat : Int) ≥ 48) && decide ((b.toNat : Int) ≤ 57)) := by
          rw [postQ, hpre, Bool.true_and, ← hr, dig0]
          cases hl : r.data.toList with
          | nil => rw [hl] at hbl; cases hbl
          | cons b' l => rw [hl] at hbl; cases hbl; rfl
        iterate 6 refine yk ?_
        refine runL_as 17 (.bool true) rfl (by congr 1; rw [bytes_beq]; simpa using h0) ?_
        repeat (first | refine yk ?_ | refine yx fun _ => ?_)
        exact run_sub' (hk _ _ _ ⟨rfl, rfl, rfl⟩) ⟨by rw [hq]; rfl, rfl, rfl, rfl, trivial⟩
  rintro _ _ _ ⟨rfl, rfl, rfl⟩
  repeat (first | refine yy ?_ | refine yx fun _ => ?_)
  refine run_cond (t := postQ s) rfl (fun hq => ?_) (fun hq => ?_)
  · rw [if_pos hq] at hR
    obtain rfl := hr0 (Bool.and_eq_true _ _ |>.mp hq).1
    rw [postO] at hR
    repeat (first | refine yy ?_ | refine yx fun _ => ?_)
    refine erR (num_ok38 _ _ hG br _ (nextR s wPost) (by omega) 2147483647 (by decide)) (fun z hz => ?_) (fun hz s' => ?_)
    rotate_left
    · rw [hz] at hR
      exact runX_pan hC (fun _ h => hdrop h) ⟨Mem.le_refl _, by rw [← hR]; exact ⟨rfl, s', rfl⟩⟩
    rw [hz, Option.bind_some] at hR
    have hzz := numO_sz hz
    repeat (first | refine yy ?_ | refine yx fun _ => ?_)
    refine erR (hear_ok _ _ br _ z.2 wComes) (fun y hy => ?_) (fun hy s' => ?_)
    rotate_left
    · rw [hy] at hR
      exact runX_pan hC (fun _ h => hdrop h) ⟨Mem.le_refl _, by rw [← hR]; exact ⟨rfl, s', rfl⟩⟩
    rw [hy, Option.bind_some] at hR
    repeat (first | refine yy ?_ | refine yx fun _ => ?_)
    refine run_retX hro ?_
    exact runX_ret hC (rs := [.cell 2 28]) rfl (rl tok rfl resN) (fun _ h => hdrop h) ⟨Mem.le_refl _, by rw [← hR]; exact ⟨_, axTx_ok (d := 4) (o := 0) (n := z.1) (t := tz) (y := false), rfl, rfl, rfl⟩⟩
  rw [if_neg (by rw [hq]; decide)] at hR
  clear hr0
  repeat (first | refine yy ?_ | refine yx fun _ => ?_)
  refine erR (org_ok _ _ br S hS s hs) (fun o ho => ?_) (fun ho s' => ?_)
  rotate_left
  · rw [ho] at hR
    exact runX_pan hC (fun _ h => hdrop h) ⟨Mem.le_refl _, by rw [← hR]; exact ⟨rfl, s', rfl⟩⟩
  rw [ho, Option.bind_some] at hR
  have hzo := orgO_sz ho
  repeat (first | refine yy ?_ | refine yx fun _ => ?_)
  refine erR (hear_ok _ _ br _ o.2 sp1) (fun y hy => ?_) (fun hy s' => ?_)
  rotate_left
  · rw [hy] at hR
    exact runX_pan hC (fun _ h => hdrop h) ⟨Mem.le_refl _, by rw [← hR]; exact ⟨rfl, s', rfl⟩⟩
  rw [hy, Option.bind_some] at hR
  have hzy := hearO_sz hy
  have hzw := (wordO_sz y.2 sgSp).2
  repeat (first | refine zc ?_ | refine vq ?_)
  refine oc (word_ok _ _ br _ y.2 sgSp (by omega) (by decide) (by decide) sgSp_ok) ?_
  rintro _ M0 _ ⟨hM0, rfl, rfl⟩
  subst hM0
  generalize hw : (wordO y.2 sgSp).1 = w at *
  generalize hs1 : (wordO y.2 sgSp).2 = s1 at *
  rw [verbO] at hR
  refine yy ?_
  refine yy ?_
  refine run_cut (fun σ' M' L' => ∃ ax s', AxOk M' ax ∧ R = some (ax.aa, s') ∧ M.le M' ∧ σ' = [(2, pt ab)] ∧ L' = erB br S.v s' :: acB ab ax :: L) ?_ ?_
  · rintro _ M1 _ ⟨ax, s', hax, hR', hM1, rfl, rfl⟩
    repeat (first | refine yy ?_ | refine yx fun _ => ?_)
    refine run_retX hro ?_
    exact runX_ret hC (rs := [.cell 2 28]) rfl (rl tok rfl resN) (fun _ h => hdrop h) ⟨hM1, by rw [hR']; exact ⟨ax, hax, rfl, rfl, rfl⟩⟩
  intro hk
  repeat (first | refine yy ?_ | refine yx fun _ => ?_)
  refine run_cond (t := w.toList == wBegins.toList) rfl (fun h1 => ?_) (fun h1 => ?_)
  · rw [bytes_beq] at h1
    rw [if_pos (by simpa using h1)] at hR
    repeat (first | refine yy ?_ | refine yx fun _ => ?_)
    refine acR (begun_ok' _ _ br ab o.1 S hS s1 (by omega)) (fun x M1 hx hM1 ax hax haa => ?_) (fun hx M1 s' q hM1 => ?_)
    rotate_left
    · rw [hx] at hR
      exact runX_pan hC (fun _ h => hdrop h) ⟨hM1, by rw [← hR]; exact ⟨rfl, s', rfl⟩⟩
    rw [hx] at hR
    repeat (first | refine yi ?_ | refine yx fun _ => ?_)
    exact run_sub' (hk _ _ _ ⟨ax, x.2, hax, by rw [← hR]; rw [haa], hM1, rfl, rfl⟩) ⟨rfl, trivial⟩
  rw [bytes_beq] at h1
  rw [if_neg (by simpa using h1)] at hR
  repeat (first | refine yy ?_ | refine yx fun _ => ?_)
  refine run_cond (t := w.toList == wSays.toList) rfl (fun h2 => ?_) (fun h2 => ?_)
  · rw [bytes_beq] at h2
    rw [if_pos (by simpa using h2)] at hR
    rw [saysO] at hR
    repeat (first | refine yy ?_ | refine yx fun _ => ?_ | (refine oc (comes_ok _ _ br _ s1 wYes) ?_; rintro _ M4 _ ⟨hM4, rfl, rfl⟩))
    subst hM4
    refine run_condI (fun σ' M' L' => ∃ y s2, yesO s1 = some (y, s2) ∧ s2.size < 1000000 ∧ M = M' ∧ σ' = [(2, pt ab), (0, pt br)] ∧ L' = erB br S.v s2 :: acB ab ⟨2, o.1, 0, 0, noG, tz, y, noS⟩ :: L) (t := !preB s1 wYes) rfl (fun hn hk2 => ?_) (fun hn hk2 => ?_) ?_
    · have hn' : preB s1 wYes = false := by simpa using hn
      rw [yesO, if_neg (by rw [hn']; decide)] at hR
      rw [nextF hn', hn']
      repeat (first | refine yy ?_ | refine yx fun _ => ?_)
      refine erR (hear_ok _ _ br _ s1 wNo) (fun u hu => ?_) (fun hu s' => ?_)
      rotate_left
      · rw [hu] at hR
        exact runX_pan hC (fun _ h => hdrop h) ⟨Mem.le_refl _, by rw [← hR]; exact ⟨rfl, s', rfl⟩⟩
      rw [hu, Option.bind_some] at hR
      have hzu := hearO_sz hu
      refine yy ?_
      exact run_sub' (hk2 _ _ _ ⟨false, u.2, by rw [yesO, if_neg (by rw [hn']; decide), hu]; rfl, by omega, rfl, rfl, rfl⟩) ⟨rfl, rfl, trivial⟩
    · have hn' : preB s1 wYes = true := by simpa using hn
      have hnx := next_le s1 wYes
      rw [hn']
      refine yy ?_
      exact run_sub' (hk2 _ _ _ ⟨true, nextR s1 wYes, by rw [yesO, if_pos hn'], by omega, rfl, rfl, rfl⟩) ⟨rfl, rfl, trivial⟩
    rintro _ _ _ ⟨yb, s2, hyo, hs2, rfl, rfl, rfl⟩
    rw [hyo, Option.bind_some] at hR
    repeat (first | refine yy ?_ | refine yx fun _ => ?_)
    refine erR (hear_ok _ _ br _ s2 wTo) (fun z hz => ?_) (fun hz s' => ?_)
    rotate_left
    · rw [hz] at hR
      exact runX_pan hC (fun _ h => hdrop h) ⟨Mem.le_refl _, by rw [← hR]; exact ⟨rfl, s', rfl⟩⟩
    rw [hz, Option.bind_some] at hR
    have hzz := hearO_sz hz
    repeat (first | refine yy ?_ | refine yx fun _ => ?_)
    refine erR (txn_ok _ _ hG br S hS z.2 (by omega)) (fun t ht => ?_) (fun ht s' => ?_)
    rotate_left
    · rw [ht] at hR
      exact runX_pan hC (fun _ h => hdrop h) ⟨Mem.le_refl _, by rw [← hR]; exact ⟨rfl, s', rfl⟩⟩
    rw [ht, Option.bind_some] at hR
    repeat (first | refine yi ?_ | refine yx fun _ => ?_)
    exact run_sub' (hk _ _ _ ⟨⟨2, o.1, 0, 0, noG, t.1, yb, noS⟩, t.2, axTx_ok, by rw [← hR]; rfl, Mem.le_refl _, rfl, rfl⟩) ⟨rfl, trivial⟩
  rw [bytes_beq] at h2
  rw [if_neg (by simpa using h2)] at hR
  repeat (first | refine yy ?_ | refine yx fun _ => ?_)
  refine run_cond (t := w.toList == wTicks.toList) rfl (fun h3 => ?_) (fun h3 => ?_)
  · rw [bytes_beq] at h3
    rw [if_pos (by simpa using h3)] at hR
    repeat (first | refine yi ?_ | refine yx fun _ => ?_)
    exact run_sub' (hk _ _ _ ⟨⟨3, o.1, 0, 0, noG, tz, false, noS⟩, s1, axTx_ok, by rw [← hR]; rfl, Mem.le_refl _, rfl, rfl⟩) ⟨rfl, trivial⟩
  rw [bytes_beq] at h3
  rw [if_neg (by simpa using h3)] at hR
  repeat (first | refine yy ?_ | refine yx fun _ => ?_)
  refine run_cond (t := w.toList == wGets.toList) rfl (fun h4 => ?_) (fun h4 => ?_)
  · rw [bytes_beq] at h4
    rw [if_pos (by simpa using h4)] at hR
    rw [stpO] at hR
    repeat (first | refine yy ?_ | refine yx fun _ => ?_)
    refine erR (hear_ok _ _ br _ s1 sp1) (fun z hz => ?_) (fun hz s' => ?_)
    rotate_left
    · rw [hz] at hR
      exact runX_pan hC (fun _ h => hdrop h) ⟨Mem.le_refl _, by rw [← hR]; exact ⟨rfl, s', rfl⟩⟩
    rw [hz, Option.bind_some] at hR
    have hzz := hearO_sz hz
    repeat (first | refine yy ?_ | refine yx fun _ => ?_)
    refine ssR (esteps_ok _ _ hG br _ z.2 (by omega)) (fun x M1 hx hM1 SS hSS hxx => ?_) (fun hx M1 s' hM1 => ?_)
    rotate_left
    · rw [hx] at hR
      exact runX_pan hC (fun _ h => hdrop h) ⟨hM1, by rw [← hR]; exact ⟨rfl, s', rfl⟩⟩
    rw [hx, Option.bind_some] at hR
    repeat (first | refine yi ?_ | refine yx fun _ => ?_)
    exact run_sub' (hk _ _ _ ⟨⟨5, o.1, 0, 0, noG, tz, false, SS⟩, x.2, ⟨MbOk.nil _, hSS, fun _ h => by cases h⟩, by rw [← hR]; rw [← hxx]; rfl, hM1, rfl, rfl⟩) ⟨rfl, trivial⟩
  rw [bytes_beq] at h4
  rw [if_neg (by simpa using h4)] at hR
  repeat (first | refine yy ?_ | refine yx fun _ => ?_)
  refine run_cond (t := w.toList == wJudges.toList) rfl (fun h5 => ?_) (fun h5 => ?_)
  · rw [bytes_beq] at h5
    rw [if_pos (by simpa using h5)] at hR
    rw [stpO] at hR
    repeat (first | refine yy ?_ | refine yx fun _ => ?_)
    refine erR (hear_ok _ _ br _ s1 sp1) (fun z hz => ?_) (fun hz s' => ?_)
    rotate_left
    · rw [hz] at hR
      exact runX_pan hC (fun _ h => hdrop h) ⟨Mem.le_refl _, by rw [← hR]; exact ⟨rfl, s', rfl⟩⟩
    rw [hz, Option.bind_some] at hR
    have hzz := hearO_sz hz
    repeat (first | refine yy ?_ | refine yx fun _ => ?_)
    refine ssR (esteps_ok _ _ hG br _ z.2 (by omega)) (fun x M1 hx hM1 SS hSS hxx => ?_) (fun hx M1 s' hM1 => ?_)
    rotate_left
    · rw [hx] at hR
      exact runX_pan hC (fun _ h => hdrop h) ⟨hM1, by rw [← hR]; exact ⟨rfl, s', rfl⟩⟩
    rw [hx, Option.bind_some] at hR
    repeat (first | refine yi ?_ | refine yx fun _ => ?_)
    exact run_sub' (hk _ _ _ ⟨⟨10, o.1, 0, 0, noG, tz, false, SS⟩, x.2, ⟨MbOk.nil _, hSS, fun _ h => by cases h⟩, by rw [← hR]; rw [← hxx]; rfl, hM1, rfl, rfl⟩) ⟨rfl, trivial⟩
  rw [bytes_beq] at h5
  rw [if_neg (by simpa using h5)] at hR
  repeat (first | refine yy ?_ | refine yx fun _ => ?_)
  refine run_cond (t := w.toList == wStops.toList) rfl (fun h6 => ?_) (fun h6 => ?_)
  · rw [bytes_beq] at h6
    rw [if_pos (by simpa using h6)] at hR
    rw [nmO] at hR
    repeat (first | refine yy ?_ | refine yx fun _ => ?_)
    refine erR (hear_ok _ _ br _ s1 wBehind) (fun z hz => ?_) (fun hz s' => ?_)
    rotate_left
    · rw [hz] at hR
      exact runX_pan hC (fun _ h => hdrop h) ⟨Mem.le_refl _, by rw [← hR]; exact ⟨rfl, s', rfl⟩⟩
    rw [hz, Option.bind_some] at hR
    have hzz := hearO_sz hz
    repeat (first | refine yy ?_ | refine yx fun _ => ?_)
    refine erR (num_ok38 _ _ hG br _ z.2 (by omega) 2147483647 (by decide)) (fun u hu => ?_) (fun hu s' => ?_)
    rotate_left
    · rw [hu] at hR
      exact runX_pan hC (fun _ h => hdrop h) ⟨Mem.le_refl _, by rw [← hR]; exact ⟨rfl, s', rfl⟩⟩
    rw [hu, Option.bind_some] at hR
    repeat (first | refine yi ?_ | refine yx fun _ => ?_)
    exact run_sub' (hk _ _ _ ⟨⟨6, o.1, 0, u.1, noG, tz, false, noS⟩, u.2, axTx_ok, by rw [← hR]; rfl, Mem.le_refl _, rfl, rfl⟩) ⟨rfl, trivial⟩
  rw [bytes_beq] at h6
  rw [if_neg (by simpa using h6)] at hR
  repeat (first | refine yy ?_ | refine yx fun _ => ?_)
  refine run_cond (t := w.toList == wCrashes.toList) rfl (fun h7 => ?_) (fun h7 => ?_)
  · rw [bytes_beq] at h7
    rw [if_pos (by simpa using h7)] at hR
    rw [nmO] at hR
    repeat (first | refine yy ?_ | refine yx fun _ => ?_)
    refine erR (hear_ok _ _ br _ s1 wKeeps) (fun z hz => ?_) (fun hz s' => ?_)
    rotate_left
    · rw [hz] at hR
      exact runX_pan hC (fun _ h => hdrop h) ⟨Mem.le_refl _, by rw [← hR]; exact ⟨rfl, s', rfl⟩⟩
    rw [hz, Option.bind_some] at hR
    have hzz := hearO_sz hz
    repeat (first | refine yy ?_ | refine yx fun _ => ?_)
    refine erR (num_ok38 _ _ hG br _ z.2 (by omega) 2147483647 (by decide)) (fun u hu => ?_) (fun hu s' => ?_)
    rotate_left
    · rw [hu] at hR
      exact runX_pan hC (fun _ h => hdrop h) ⟨Mem.le_refl _, by rw [← hR]; exact ⟨rfl, s', rfl⟩⟩
    rw [hu, Option.bind_some] at hR
    repeat (first | refine yi ?_ | refine yx fun _ => ?_)
    exact run_sub' (hk _ _ _ ⟨⟨7, o.1, 0, u.1, noG, tz, false, noS⟩, u.2, axTx_ok, by rw [← hR]; rfl, Mem.le_refl _, rfl, rfl⟩) ⟨rfl, trivial⟩
  rw [bytes_beq] at h7
  rw [if_neg (by simpa using h7)] at hR
  repeat (first | refine yy ?_ | refine yx fun _ => ?_)
  refine run_cond (t := w.toList == wShows.toList) rfl (fun h8 => ?_) (fun h8 => ?_)
  · rw [bytes_beq] at h8
    rw [if_pos (by simpa using h8)] at hR
    rw [shwO] at hR
    repeat (first | refine yy ?_ | refine yx fun _ => ?_)
    refine erR (hear_ok _ _ br _ s1 sp1) (fun z hz => ?_) (fun hz s' => ?_)
    rotate_left
    · rw [hz] at hR
      exact runX_pan hC (fun _ h => hdrop h) ⟨Mem.le_refl _, by rw [← hR]; exact ⟨rfl, s', rfl⟩⟩
    rw [hz, Option.bind_some] at hR
    have hzz := hearO_sz hz
    repeat (first | refine yy ?_ | refine yx fun _ => ?_)
    refine erR (txn_ok _ _ hG br S hS z.2 (by omega)) (fun t ht => ?_) (fun ht s' => ?_)
    rotate_left
    · rw [ht] at hR
      exact runX_pan hC (fun _ h => hdrop h) ⟨Mem.le_refl _, by rw [← hR]; exact ⟨rfl, s', rfl⟩⟩
    rw [ht, Option.bind_some] at hR
    repeat (first | refine yi ?_ | refine yx fun _ => ?_)
    exact run_sub' (hk _ _ _ ⟨⟨9, o.1, 0, 0, noG, t.1, false, noS⟩, t.2, axTx_ok, by rw [← hR]; rfl, Mem.le_refl _, rfl, rfl⟩) ⟨rfl, trivial⟩
  rw [bytes_beq] at h8
  rw [if_neg (by simpa using h8)] at hR
  repeat (first | refine yy ?_ | refine yx fun _ => ?_)
  refine umR (b := false) (fun h => by cases h) (fun _ => ?_)
  exact runX_pan hC (fun _ h => hdrop h) ⟨Mem.le_refl _, by rw [← hR]; exact ⟨rfl, _, rfl⟩⟩
end Go.Proofs.YtladcmfbkiogbaaGreatDoor
namespace Go.Proofs.YtladcmfbkiogbaaGreatDoor
open Go.Chi
set_option maxRecDepth 10000
def pre1 (a : Ax) : Bool := (((decide (a.do_ ≥ 1) && decide (a.do_ ≤ 10)) && bareA a) && orgW a.org) && orgW a.auditor
def fine1 (a : Ax) : Bool := ((pre1 a && [a.n].all nmW) && decide ((a.gives.len : Int) ≤ 6)) && decide ((a.steps.len : Int) ≤ 64)
def fine2 (a : Ax) : Bool := if fine1 a = true ∧ (a.do_ = 2 ∨ a.do_ = 9) then mayTx a.txn else fine1 a
def gvOk (g : Mb) : Bool := orgW g.org && (checkR g.digest == 0)
def spOk (x : Sr) : Bool := (((((decide (x.do_ ≥ 1) && decide (x.do_ ≤ 9)) && [x.a, x.b, x.c, x.n].all nmW) && x.list.xs.all nmW) && decide ((x.text.size : Int) ≤ 1024)) && decide ((x.list.len : Int) ≤ 32))
def fineA (a : Ax) : Bool := (fine2 a && a.gives.xs.all gvOk) && a.steps.xs.all spOk
def chkA (a : Ax) : Int := if fineA a = true then 0 else 2
set_option maxRecDepth 10000 in
set_option maxHeartbeats 16000000 in
theorem scheck_ok (M : Mem) (L : HL) (a : Ax) (ha : AxOk M a) : TrQ Tryz.prog 29 [.agg ⟨axC a⟩] M L (.int .i64 (chkA a)) := by
  have hgl := ha.gives.len
  have hg6 := ha.gives.2
  have hsl := ha.steps.len
  have hs6 := ha.steps.lt
  refine Tr.intro 132 Tryz.func29 rfl rfl Tryz.call29 rfl ?_; intro C hC hro
  refine run_seq ?_
  (refine run_region ?_; (repeat (first | refine zq ?_ | refine zx fun _ => ?_)); refine runL_nil ?_)
  rename_i b1
  refine run_seq ?_
  refine run_cut (fun σ' M' L' => σ' = [(3, .bool (fine1 a)), (1, .pointer (some ⟨b1, 0, none⟩))] ∧ M = M' ∧ L' = (b1, .cells ⟨axC a⟩ 28 (0, 0)) :: L) ?_ ?_
  rotate_left
  · intro hnext
    refine run_region ?_
    iterate 25 (first | refine zk ?_ | refine zx fun _ => ?_ | refine runL_g rfl rfl (qt_callF rfl (fun _ => sbare_ok _ _ a)) rfl rfl rfl rfl rfl ?_ | refine runL_g rfl rfl (qt_callF rfl (fun _ => sorg_ok _ _ _)) rfl rfl rfl rfl rfl ?_)
    by_cases hp : pre1 a = true
    · refine runL_known 30 true rfl hp ?_
      refine runL_gT rfl rfl (st_buildSlice tok rfl rfl rfl rfl rfl rfl rfl) rfl rfl rfl ?_
      rintro _ _ _ ⟨b3, rfl, rfl, rfl⟩
      refine runL_gK rfl rfl (qt_callF rfl (fun _ => snumL _ _ b3 _ 1 _ [a.n] rfl rfl (by decide) List.mem_cons_self)) rfl rfl rfl ?_
      repeat (first | refine zk ?_ | refine zx fun _ => ?_)
      refine runL_nil ?_
      exact run_mem (fun _ h => h.drop) (run_sub' (hnext _ _ _ ⟨rfl, rfl, rfl⟩) ⟨by rw [fine1, hp]; rfl, rfl, trivial⟩)
    · have hp' : pre1 a = false := by simpa using hp
      refine runL_known 30 false rfl hp' ?_
      repeat (first | refine zk ?_ | refine zx fun _ => ?_)
      refine runL_nil ?_
      exact run_sub' (hnext _ _ _ ⟨rfl, rfl, rfl⟩) ⟨by rw [fine1, hp']; rfl, rfl, trivial⟩
  rintro _ _ _ ⟨rfl, rfl, rfl⟩
  repeat (first | refine zz ?_ | refine zx fun _ => ?_)
  have hc2 : ∀ t : Bool, (fine1 a && ((a.do_ == 2) || (a.do_ == 9))) = t → (t = true ↔ (fine1 a = true ∧ (a.do_ = 2 ∨ a.do_ = 9))) := by
    rintro _ rfl
    simp
  refine run_cut (fun σ' M' L' => σ' = [(3, .bool (fine2 a)), (1, .pointer (some ⟨b1, 0, none⟩))] ∧ M = M' ∧ L' = (b1, .cells ⟨axC a⟩ 28 (0, 0)) :: L) ?_ ?_
  rotate_left
  · intro hnext
    refine run_cond rfl (fun h => ?_) (fun h => ?_)
    · have hx := (hc2 true h).1 rfl
      refine run_region ?_
      repeat (first | refine zq ?_ | refine zx fun _ => ?_ | refine runL_q (qt_callF rfl (fun _ => mayTx_ok _ _ a.txn)) rfl rfl rfl ?_)
      refine runL_nil ?_
      exact run_sub' (hnext _ _ _ ⟨rfl, rfl, rfl⟩) ⟨by rw [fine2, if_pos hx]; rfl, rfl, trivial⟩
    · have hx : ¬ (fine1 a = true ∧ (a.do_ = 2 ∨ a.do_ = 9)) := fun e => by have := (hc2 false h).2 e; cases this
      refine run_skip ?_
      exact run_sub' (hnext _ _ _ ⟨rfl, rfl, rfl⟩) ⟨by rw [fine2, if_neg hx]; rfl, rfl, trivial⟩
  rintro _ _ _ ⟨rfl, rfl, rfl⟩
  repeat (first | refine zz ?_ | refine zx fun _ => ?_)
  refine run_loopN (fun j σ1 M1 L1 => j ≤ a.gives.len ∧ M = M1 ∧ L1 = (b1, .cells ⟨axC a⟩ 28 (0, 0)) :: L ∧ σ1 = [(65, .int .i64 (j : Int)), (64, .int .i64 (a.gives.len : Int)), (63, a.gives.v), (3, .bool (fine2 a && (a.gives.xs.take j).all gvOk)), (1, .pointer (some ⟨b1, 0, none⟩))]) a.gives.len [(65, .int .i64 ((0 : Nat) : Int)), (64, .int .i64 (a.gives.len : Int)), (63, a.gives.v), (3, .bool (fine2 a && (a.gives.xs.take 0).all gvOk)), (1, .pointer (some ⟨b1, 0, none⟩))] ?_ ⟨Nat.zero_le _, rfl, rfl, rfl⟩ (fun j _ _ _ h => h.1) ?_
  · exact ⟨rfl, rfl, rfl, by rw [List.take_zero, List.all_nil, Bool.and_true]; rfl, rfl, trivial⟩
  rintro j _ _ _ ⟨hj, rfl, rfl, rfl⟩ hnext
  repeat (first | refine zz ?_ | refine zx fun _ => ?_)
  refine run_cond rfl (fun h => ?_) (fun h => ?_)
  · have hlt : j < a.gives.len := by simpa using h
    obtain ⟨b, off, m, hma, hm, hc⟩ := SMb.at_ ha.gives.1 hlt
    have hv : a.gives.v = .slice (some ⟨b, off, none⟩) a.gives.len a.gives.cap := by rw [← hma]; rfl
    have hmd : m.digest.size < 4611686018427387904 := by have := ha.pay m (List.mem_of_getElem? hm); omega
    refine run_as 63 (.slice (some ⟨b, off, none⟩) a.gives.len a.gives.cap) rfl hv ?_
    repeat (first | refine zz ?_ | refine zx fun _ => ?_ | refine runL_q (qt_indexN tok rfl rfl rfl rfl (fun _ => by omega)) rfl rfl rfl ?_ | refine runL_g rfl rfl (qt_indexN tok rfl rfl rfl rfl (fun _ => by omega)) rfl rfl rfl rfl rfl ?_ | refine runL_q (qt_ldM tok rfl hc rfl) rfl rfl rfl ?_ | refine runL_g rfl rfl (qt_ldM tok rfl hc rfl) rfl rfl rfl rfl rfl ?_ | refine runL_q (qt_ldM0 tok rfl hc rfl) rfl rfl rfl ?_ | refine runL_g rfl rfl (qt_ldM0 tok rfl hc rfl) rfl rfl rfl rfl rfl ?_ | refine runL_g rfl rfl (qt_callF rfl (fun _ => sorg_ok _ _ _)) rfl rfl rfl rfl rfl ?_ | refine runL_g rfl rfl (qt_callF rfl (fun _ => check_ok _ _ _ hmd)) rfl rfl rfl rfl rfl ?_)
    refine run_mem (fun _ h => h.drop) (run_sub' (hnext _ _ _ ⟨hlt, rfl, rfl, rfl⟩) ⟨lk_succ rfl (by omega), rfl, by rw [hv]; rfl, ?_, rfl, trivial⟩)
    rw [allS _ hm, ← Bool.and_assoc, gvOk, ← Bool.and_assoc]
    rfl
  have hge : j = a.gives.len := by simp at h; omega
  rw [hge, List.take_of_length_le (by omega)]
  clear hnext
  generalize hf : (fine2 a && a.gives.xs.all gvOk) = f3
  have hfA : fineA a = (f3 && a.steps.xs.all spOk) := by rw [fineA, hf]
  repeat (first | refine zz ?_ | refine zx fun _ => ?_)
  refine run_loopN (fun j σ1 M1 L1 => j ≤ a.steps.len ∧ M = M1 ∧ L1 = (b1, .cells ⟨axC a⟩ 28 (0, 0)) :: L ∧ σ1 = [(85, .int .i64 (j : Int)), (84, .int .i64 (a.steps.len : Int)), (83, a.steps.v), (3, .bool (f3 && (a.steps.xs.take j).all spOk))]) a.steps.len [(85, .int .i64 ((0 : Nat) : Int)), (84, .int .i64 (a.steps.len : Int)), (83, a.steps.v), (3, .bool (f3 && (a.steps.xs.take 0).all spOk))] ?_ ⟨Nat.zero_le _, rfl, rfl, rfl⟩ (fun j _ _ _ h => h.1) ?_
  · exact ⟨rfl, rfl, rfl, by rw [List.take_zero, List.all_nil, Bool.and_true]; rfl, trivial⟩
  rintro i _ _ _ ⟨hi, rfl, rfl, rfl⟩ hnext
  repeat (first | refine zz ?_ | refine zx fun _ => ?_)
  refine run_cond rfl (fun h => ?_) (fun h => ?_)
  · have hlt : i < a.steps.len := by simpa using h
    obtain ⟨b, off, m, hma, hm, hc⟩ := SSr.at_ ha.steps.sl hlt
    have hv : a.steps.v = .slice (some ⟨b, off, none⟩) a.steps.len a.steps.cap := by rw [← hma]; rfl
    have hmo := ha.steps.each m (List.mem_of_getElem? hm)
    refine run_as 83 (.slice (some ⟨b, off, none⟩) a.steps.len a.steps.cap) rfl hv ?_
    repeat (first | refine zz ?_ | refine zx fun _ => ?_ | refine runL_q (qt_indexN tok rfl rfl rfl rfl (fun _ => by omega)) rfl rfl rfl ?_ | refine runL_g rfl rfl (qt_indexN tok rfl rfl rfl rfl (fun _ => by omega)) rfl rfl rfl rfl rfl ?_ | refine runL_q (qt_ldM tok rfl hc rfl) rfl rfl rfl ?_ | refine runL_g rfl rfl (qt_ldM tok rfl hc rfl) rfl rfl rfl rfl rfl ?_ | refine runL_q (qt_ldM0 tok rfl hc rfl) rfl rfl rfl ?_ | refine runL_g rfl rfl (qt_ldM0 tok rfl hc rfl) rfl rfl rfl rfl rfl ?_)
    have hsn : spOk m = (((((decide (m.do_ ≥ 1) && decide (m.do_ ≤ 9)) && [m.a, m.b, m.c, m.n].all nmW) && m.list.xs.all nmW) && decide ((m.text.size : Int) ≤ 1024)) && decide ((m.list.len : Int) ≤ 32)) := rfl
    generalize hg : (f3 && (a.steps.xs.take i).all spOk) = g
    by_cases hp : ((g && decide (m.do_ ≥ 1)) && decide (m.do_ ≤ 9)) = true
    · refine runL_known 100 true rfl hp ?_
      refine runL_gT rfl rfl (st_buildSlice tok rfl rfl rfl rfl rfl rfl rfl) rfl rfl rfl ?_
      rintro _ _ _ ⟨b3, rfl, rfl, rfl⟩
      refine runL_gK rfl rfl (qt_callF rfl (fun _ => snumL _ _ b3 _ 4 _ [m.a, m.b, m.c, m.n] rfl rfl (by decide) List.mem_cons_self)) rfl rfl rfl ?_
      repeat (first | refine zk ?_ | refine zx fun _ => ?_ | refine runL_g rfl rfl (qt_callF rfl (fun _ => snum_ok _ _ m.list hmo.list)) rfl rfl rfl rfl rfl ?_)
      refine runL_nil ?_
      repeat (first | refine zz ?_ | refine zx fun _ => ?_)
      refine run_mem (fun _ h => h.drop.drop) (run_sub' (hnext _ _ _ ⟨hlt, rfl, rfl, rfl⟩) ⟨lk_succ rfl (by omega), rfl, by rw [hv]; rfl, ?_, trivial⟩)
      rw [allS _ hm, ← Bool.and_assoc, hg, hsn]
      have hp3 : (g = true ∧ decide (m.do_ ≥ 1) = true) ∧ decide (m.do_ ≤ 9) = true := by simpa only [Bool.and_eq_true] using hp
      rw [hp3.1.1, hp3.1.2, hp3.2]
      rfl
    · have hp' : ((g && decide (m.do_ ≥ 1)) && decide (m.do_ ≤ 9)) = false := by simpa only [Bool.not_eq_true] using hp
      refine runL_known 100 false rfl hp' ?_
      repeat (first | refine zk ?_ | refine zx fun _ => ?_)
      refine runL_nil ?_
      repeat (first | refine zz ?_ | refine zx fun _ => ?_)
      refine run_mem (fun _ h => h.drop) (run_sub' (hnext _ _ _ ⟨hlt, rfl, rfl, rfl⟩) ⟨lk_succ rfl (by omega), rfl, by rw [hv]; rfl, ?_, trivial⟩)
      have : (g && spOk m) = false := by
        rw [hsn]
        cases g
        · rfl
        · rw [Bool.true_and] at hp' ⊢
          rw [hp']
          rfl
      rw [allS _ hm, ← Bool.and_assoc, hg, this]
      rfl
  have hge2 : i = a.steps.len := by simp at h; omega
  rw [hge2, List.take_of_length_le (by omega), ← hfA]
  repeat (first | refine zz ?_ | refine zx fun _ => ?_)
  refine run_cond rfl (fun h => ?_) (fun h => ?_)
  · have hx : ¬ fineA a = true := by simpa using h
    repeat (first | refine zz ?_ | refine zx fun _ => ?_)
    exact run_ret hC (rs := [.tmp 2]) rfl (resT rfl resN) (fun _ h => h.drop) ⟨by rw [chkA, if_neg hx]; rfl, rfl, rfl⟩
  · have hx : fineA a = true := by simpa using h
    repeat (first | refine zz ?_ | refine zx fun _ => ?_)
    exact run_ret hC (rs := [.tmp 2]) rfl (resT rfl resN) (fun _ h => h.drop) ⟨by rw [chkA, if_pos hx]; rfl, rfl, rfl⟩
end Go.Proofs.YtladcmfbkiogbaaGreatDoor
namespace Go.Proofs.YtladcmfbkiogbaaGreatDoor
open Go.Chi
theorem spOk_iff {x : Sr} (hl : x.list.xs.length = x.list.len) : spOk x = true ↔ SpP x.sp := by
  unfold spOk
  simp only [Bool.and_eq_true, decide_eq_true_eq, List.all_cons, List.all_nil, and_true, List.all_eq_true]
  constructor
  · rintro ⟨⟨⟨⟨⟨h1, h2⟩, h3, h4, h5, h6⟩, h7⟩, h8⟩, h9⟩
    exact ⟨⟨h1, h2⟩, h3, h4, h5, h6, by show x.text.size ≤ 1024; omega, by show x.list.xs.length ≤ 32; omega, h7⟩
  · rintro ⟨h1, h3, h4, h5, h6, h8, h9, h7⟩
    have h8 : x.text.size ≤ 1024 := h8
    have h9 : x.list.xs.length ≤ 32 := h9
    exact ⟨⟨⟨⟨⟨h1.1, h1.2⟩, h3, h4, h5, h6⟩, h7⟩, by omega⟩, by omega⟩
theorem gvOk_iff (g : Mb) : gvOk g = true ↔ GvP g := by
  unfold gvOk GvP
  simp
structure FineP (a : Ax) : Prop where
  kind : 1 ≤ a.do_ ∧ a.do_ ≤ 10
  bare : bareA a = true
  org : orgW a.org = true
  auditor : orgW a.auditor = true
  n : nmW a.n = true
  gl : a.gives.len ≤ 6
  sl : a.steps.len ≤ 64
  txn : (a.do_ = 2 ∨ a.do_ = 9) → mayTx a.txn = true
  gives : ∀ g ∈ a.gives.xs, GvP g
  steps : ∀ x ∈ a.steps.xs, SpP x.sp
theorem fineA_iff {a : Ax} (hl : ∀ x ∈ a.steps.xs, x.list.xs.length = x.list.len) : fineA a = true ↔ FineP a := by
  have h1 : fine1 a = true ↔ (((1 ≤ a.do_ ∧ a.do_ ≤ 10) ∧ bareA a = true) ∧ orgW a.org = true ∧ orgW a.auditor = true ∧ nmW a.n = true) ∧ a.gives.len ≤ 6 ∧ a.steps.len ≤ 64 := by
    unfold fine1 pre1
    simp only [Bool.and_eq_true, decide_eq_true_eq, List.all_cons, List.all_nil, and_true]
    constructor
    · rintro ⟨⟨⟨⟨⟨⟨⟨a1, a2⟩, a3⟩, a4⟩, a5⟩, a6⟩, a7⟩, a8⟩; exact ⟨⟨⟨⟨a1, a2⟩, a3⟩, a4, a5, a6⟩, by omega, by omega⟩
    · rintro ⟨⟨⟨⟨a1, a2⟩, a3⟩, a4, a5, a6⟩, a7, a8⟩; exact ⟨⟨⟨⟨⟨⟨⟨a1, a2⟩, a3⟩, a4⟩, a5⟩, a6⟩, by omega⟩, by omega⟩
  have h2 : fine2 a = true ↔ fine1 a = true ∧ ((a.do_ = 2 ∨ a.do_ = 9) → mayTx a.txn = true) := by
    unfold fine2
    by_cases hf : fine1 a = true
    · by_cases hd : a.do_ = 2 ∨ a.do_ = 9
      · rw [if_pos ⟨hf, hd⟩]; exact ⟨fun h => ⟨hf, fun _ => h⟩, fun h => h.2 hd⟩
      · rw [if_neg (fun e => hd e.2)]; exact ⟨fun h => ⟨h, fun e => absurd e hd⟩, fun h => h.1⟩
    · rw [if_neg (fun e => hf e.1)]; exact ⟨fun h => absurd h hf, fun h => h.1⟩
  unfold fineA
  rw [Bool.and_eq_true, Bool.and_eq_true, List.all_eq_true, List.all_eq_true, h2, h1]
  constructor
  · rintro ⟨⟨⟨⟨⟨⟨⟨a1, a2⟩, a3⟩, a4, a5, a6⟩, a7, a8⟩, a9⟩, a10⟩, a11⟩
    exact ⟨⟨a1, a2⟩, a3, a4, a5, a6, a7, a8, a9, fun g hg => (gvOk_iff g).1 (a10 g hg), fun x hx => (spOk_iff (hl x hx)).1 (a11 x hx)⟩
  · rintro ⟨a1, a3, a4, a5, a6, a7, a8, a9, a10, a11⟩
    exact ⟨⟨⟨⟨⟨⟨⟨a1.1, a1.2⟩, a3⟩, a4, a5, a6⟩, a7, a8⟩, a9⟩, fun g hg => (gvOk_iff g).2 (a10 g hg)⟩, fun x hx => (spOk_iff (hl x hx)).2 (a11 x hx)⟩
theorem tx_tz {t : Tx} (h : ((t.coord == 0) && ((t.epoch == 0) && ((t.seq == 0) && true))) = true) : t = tz := by
  obtain ⟨a, b, c⟩ := t
  simp at h
  obtain ⟨rfl, rfl, rfl⟩ := h
  rfl
theorem bareA_iff (a : Ax) : bareA a = true ↔ ((a.do_ = 4 → a.org = 0) ∧ (a.do_ ≠ 1 → a.auditor = 0 ∧ a.gives.len = 0) ∧ ((a.do_ ≠ 2 ∧ a.do_ ≠ 9) → a.txn = tz) ∧ (a.do_ ≠ 2 → a.yes = false) ∧ ((a.do_ ≠ 5 ∧ a.do_ ≠ 10) → a.steps.len = 0) ∧ ((a.do_ ≠ 4 ∧ a.do_ ≠ 6 ∧ a.do_ ≠ 7) → a.n = 0)) := by
  have e0 : ((a.txn.coord == 0) && ((a.txn.epoch == 0) && ((a.txn.seq == 0) && true))) = decide (a.txn = tz) := by
    rw [Bool.eq_iff_iff, decide_eq_true_eq]
    exact ⟨tx_tz, fun h => by rw [h]; rfl⟩
  have e1 : ∀ n : Nat, ((n : Int) == 0) = decide (n = 0) := fun n => by rw [Bool.eq_iff_iff]; simp
  unfold bareA
  rw [e0, e1, e1]
  simp only [Bool.and_eq_true, Bool.or_eq_true, bne_iff_ne, beq_iff_eq, decide_eq_true_eq, Bool.not_eq_true']
  constructor
  · rintro ⟨⟨⟨⟨⟨h1, h2⟩, h3⟩, h4⟩, h5⟩, h6⟩
    exact ⟨fun h => h1.resolve_left (fun x => x h), fun h => h2.resolve_left h, fun h => h3.resolve_left (fun x => x.elim h.1 h.2), fun h => h4.resolve_left h, fun h => h5.resolve_left (fun x => x.elim h.1 h.2), fun h => h6.resolve_left (fun x => x.elim (fun y => y.elim h.1 h.2.1) h.2.2)⟩
  · rintro ⟨h1, h2, h3, h4, h5, h6⟩
    refine ⟨⟨⟨⟨⟨?_, ?_⟩, ?_⟩, ?_⟩, ?_⟩, ?_⟩
    · by_cases h : a.do_ = 4
      · exact .inr (h1 h)
      · exact .inl h
    · by_cases h : a.do_ = 1
      · exact .inl h
      · exact .inr (h2 h)
    · by_cases h : a.do_ = 2 ∨ a.do_ = 9
      · exact .inl h
      · exact .inr (h3 ⟨fun e => h (.inl e), fun e => h (.inr e)⟩)
    · by_cases h : a.do_ = 2
      · exact .inl h
      · exact .inr (h4 h)
    · by_cases h : a.do_ = 5 ∨ a.do_ = 10
      · exact .inl h
      · exact .inr (h5 ⟨fun e => h (.inl e), fun e => h (.inr e)⟩)
    · by_cases h : (a.do_ = 4 ∨ a.do_ = 6) ∨ a.do_ = 7
      · exact .inl h
      · exact .inr (h6 ⟨fun e => h (.inl (.inl e)), fun e => h (.inl (.inr e)), fun e => h (.inr e)⟩)
theorem chkA_iff {a : Ax} (hg : a.gives.xs.length = a.gives.len) (hs : a.steps.xs.length = a.steps.len) (hl : ∀ x ∈ a.steps.xs, x.list.xs.length = x.list.len) : chkA a = 0 ↔ AcP a.aa := by
  have h0 : chkA a = 0 ↔ fineA a = true := by unfold chkA; split <;> simp_all
  rw [h0, fineA_iff hl]
  constructor
  · rintro ⟨hk, hb, ho, hau, hn, hgl, hsl, ht, hgv, hsp⟩
    obtain ⟨b1, b2, b3, b4, b5, b6⟩ := (bareA_iff a).1 hb
    obtain ⟨k, o, au, n, g, t, y, st⟩ := a
    simp only at hk ho hau hn hgl hsl ht hgv hsp b1 b2 b3 b4 b5 b6 hg hs
    have eg : g.len = 0 → g.xs = [] := fun h => List.length_eq_zero_iff.1 (by omega)
    have es : st.len = 0 → st.xs = [] := fun h => List.length_eq_zero_iff.1 (by omega)
    have hlen : (st.xs.map Sr.sp).length ≤ 64 := by rw [List.length_map]; omega
    have hspm : ∀ x ∈ st.xs.map Sr.sp, SpP x := fun x hx => by obtain ⟨y, hy, rfl⟩ := List.mem_map.1 hx; exact hsp y hy
    have hk10 : k = 1 ∨ k = 2 ∨ k = 3 ∨ k = 4 ∨ k = 5 ∨ k = 6 ∨ k = 7 ∨ k = 8 ∨ k = 9 ∨ k = 10 := by omega
    show AcP ⟨k, o, au, n, g.xs, t, y, st.xs.map Sr.sp⟩
    rcases hk10 with rfl | rfl | rfl | rfl | rfl | rfl | rfl | rfl | rfl | rfl
    · rw [b3 (by omega), b4 (by omega), b6 (by omega), es (b5 (by omega))]
      exact AcP.begin_ o au g.xs ho hau (by omega) hgv
    · rw [(b2 (by omega)).1, eg (b2 (by omega)).2, b6 (by omega), es (b5 (by omega))]
      exact AcP.submit o t y ho (ht (by omega))
    · rw [(b2 (by omega)).1, eg (b2 (by omega)).2, b3 (by omega), b4 (by omega), b6 (by omega), es (b5 (by omega))]
      exact AcP.tick o ho
    · rw [b1 rfl, (b2 (by omega)).1, eg (b2 (by omega)).2, b3 (by omega), b4 (by omega), es (b5 (by omega))]
      exact AcP.deliver n hn
    · rw [(b2 (by omega)).1, eg (b2 (by omega)).2, b3 (by omega), b4 (by omega), b6 (by omega)]
      exact AcP.inject o _ ho hlen hspm
    · rw [(b2 (by omega)).1, eg (b2 (by omega)).2, b3 (by omega), b4 (by omega), es (b5 (by omega))]
      exact AcP.arm o n ho hn
    · rw [(b2 (by omega)).1, eg (b2 (by omega)).2, b3 (by omega), b4 (by omega), es (b5 (by omega))]
      exact AcP.crash o n ho hn
    · rw [(b2 (by omega)).1, eg (b2 (by omega)).2, b3 (by omega), b4 (by omega), b6 (by omega), es (b5 (by omega))]
      exact AcP.restart o ho
    · rw [(b2 (by omega)).1, eg (b2 (by omega)).2, b4 (by omega), b6 (by omega), es (b5 (by omega))]
      exact AcP.exprt o t ho (ht (by omega))
    · rw [(b2 (by omega)).1, eg (b2 (by omega)).2, b3 (by omega), b4 (by omega), b6 (by omega)]
      exact AcP.present o _ ho hlen hspm
  · intro h
    have key : ∀ x : Aa, x = a.aa → AcP x → FineP a := by
      intro x hx h
      have d0 : x.do_ = a.do_ := by rw [hx]; rfl
      have d1 : x.org = a.org := by rw [hx]; rfl
      have d2 : x.auditor = a.auditor := by rw [hx]; rfl
      have d3 : x.n = a.n := by rw [hx]; rfl
      have d4 : x.gives = a.gives.xs := by rw [hx]; rfl
      have d5 : x.txn = a.txn := by rw [hx]; rfl
      have d6 : x.yes = a.yes := by rw [hx]; rfl
      have d7 : x.steps = a.steps.xs.map Sr.sp := by rw [hx]; rfl
      have dg : a.gives.len = x.gives.length := by rw [d4]; omega
      have ds : a.steps.len = x.steps.length := by rw [d7, List.length_map]; omega
      have o0 : orgW 0 = true := by decide
      have n0 : nmW 0 = true := by decide
      refine ⟨?_, (bareA_iff a).2 ?_, ?_, ?_, ?_, ?_, ?_, ?_, ?_, fun y hy => ?_⟩
      · rw [← d0]; cases h <;> simp
      · rw [← d0, ← d1, ← d2, ← d3, ← d5, ← d6, dg, ds]; cases h <;> simp
      · rw [← d1]; cases h <;> assumption
      · rw [← d2]; cases h <;> assumption
      · rw [← d3]; cases h <;> assumption
      · rw [dg]; cases h <;> first | assumption | exact Nat.zero_le _
      · rw [ds]; cases h <;> first | assumption | exact Nat.zero_le _
      · rw [← d0, ← d5]; cases h <;> first | (intro _; assumption) | (intro h; exact absurd h (by simp))
      · rw [← d4]; cases h <;> first | assumption | (intro g hg; cases hg)
      · have hy' : y.sp ∈ x.steps := by rw [d7]; exact List.mem_map_of_mem hy
        have hall : ∀ z ∈ x.steps, SpP z := by
          cases h <;> first | assumption | (intro g hg; cases hg)
        exact hall _ hy'
    exact key _ rfl h
end Go.Proofs.YtladcmfbkiogbaaGreatDoor
namespace Go.Proofs.YtladcmfbkiogbaaGreatDoor
open Go.Chi
set_option maxRecDepth 10000
theorem byteI_at {s : ByteArray} {i : Nat} (h : i < s.size) : ∃ b : UInt8, s[i]? = some b ∧ byteI s i = b.toNat := by
  have hx : s[i]? = some (s[i]'h) := getElem?_pos s i h
  exact ⟨_, hx, by rw [byteI, hx]; rfl⟩
set_option maxHeartbeats 4000000 in
theorem first_ok (M : Mem) (L : HL) (s : ByteArray) (hs : s.size < 1000000) : TrQ Tryz.prog 84 [.string s] M L (.tuple ⟨[.int .u8 (firstN s).1, .int .i64 (firstN s).2]⟩) := by
  refine Tr.intro 63 Tryz.func84 rfl rfl Tryz.call84 rfl ?_; intro C hC hro
  repeat (first | refine yy ?_ | refine yx fun _ => ?_ | refine run_scope ?_ | refine qc (runeCount_ok _ _ s hs) ?_)
  refine run_cond rfl (fun h1 => ?_) (fun h1 => ?_)
  · repeat (first | refine yy ?_ | refine yx fun _ => ?_)
    refine run_ret hC (rs := [.tmp 2, .tmp 3]) rfl (resT rfl (resT rfl resN)) (fun _ h => h) ⟨?_, rfl, rfl⟩
    have : 24 < (runesL s).length := by rw [← runeCount_eq]; simp at h1; omega
    rw [firstN, if_pos this]; rfl
  have h24 : ¬ 24 < (runesL s).length := by rw [← runeCount_eq]; simp at h1; omega
  clear h1
  by_cases h0 : s.size = 0
  · have e0 : s = ⟨#[]⟩ := by
      have : s.data.toList = [] := List.eq_nil_of_length_eq_zero (by simpa using h0)
      exact ba_ext this
    subst e0
    repeat (first | refine zc ?_ | refine vq ?_)
    refine runL_as 12 (.bool true) rfl (by rw [empty_beq]; rfl) ?_
    repeat (first | refine yk ?_ | refine yx fun _ => ?_ | refine run_cond (t := true) rfl (fun _ => ?_) (fun h => by cases h))
    refine run_ret hC (rs := [.tmp 2, .tmp 3]) rfl (resT rfl (resT rfl resN)) (fun _ h => h) ⟨?_, rfl, rfl⟩
    rw [firstN, if_neg h24, if_pos (.inl rfl)]; rfl
  obtain ⟨b0, hb0, hv0⟩ := byteI_at (s := s) (i := 0) (by omega)
  obtain ⟨b1, hb1, hv1⟩ := byteI_at (s := s) (i := s.size - 1) (by omega)
  have hw : IntKind.i64.wrap ((s.size : Int) - 1) = ((s.size - 1 : Nat) : Int) := by rw [show (s.size : Int) - 1 = ((s.size - 1 : Nat) : Int) by omega, wrap64_nat (by omega)]
  have hne : (s.toList == (⟨#[]⟩ : ByteArray).toList) = false := by rw [empty_beq]; simpa using h0
  repeat (first | refine yy ?_ | refine yx fun _ => ?_ | refine runL_g rfl rfl (qt_strIndex tok rfl rfl (congrArg (fun z => some (Value.int .i64 z)) hw) (fun _ => hb1)) rfl rfl rfl rfl rfl ?_)
  refine run_cond (t := ((s.toList == (⟨#[]⟩ : ByteArray).toList) || decide ((b0.toNat : Int) = 45)) || decide ((b1.toNat : Int) = 45)) rfl (fun h2 => ?_) (fun h2 => ?_)
  · rw [hne, ← hv0, ← hv1] at h2
    repeat (first | refine yy ?_ | refine yx fun _ => ?_)
    exact run_ret hC (rs := [.tmp 2, .tmp 3]) rfl (resT rfl (resT rfl resN)) (fun _ h => h) ⟨by rw [firstN, if_neg h24, if_pos (.inr (by simpa using h2))]; rfl, rfl, rfl⟩
  rw [hne, ← hv0, ← hv1] at h2
  have h45 : ¬ (s.size = 0 ∨ byteI s 0 = 45 ∨ byteI s (s.size - 1) = 45) := by simp at h2; simp [h0, h2]
  clear h2
  repeat (first | refine yy ?_ | refine yx fun _ => ?_ | refine run_label ?_ | (refine runL_op (st_rangeS tok rfl rfl) rfl rfl rfl ?_; rintro _ _ _ ⟨b, rfl, rfl, rfl⟩))
  refine run_loopN (fun i σ1 M1 L1 => i ≤ s.size ∧ ∃ p k e, i ≤ p ∧ fstF ((rsF s p).map Prod.snd) k e = fstF (runesL s) 0 0 ∧ σ1 = [(26, pt b), (3, .int .i64 e), (2, .int .u8 k), (0, .string s)] ∧ M = M1 ∧ L1 = (b, .stringIter s p) :: L) s.size [(26, pt b), (3, .int .i64 0), (2, .int .u8 0), (0, .string s)] ?_ ⟨Nat.zero_le _, 0, 0, 0, Nat.le_refl _, rfl, rfl, rfl, rfl⟩ (fun j _ _ _ h => h.1) ?_
  · exact ⟨rfl, rfl, rfl, rfl, trivial⟩
  rintro i _ _ _ ⟨hi, p, k, e, hip, hn, rfl, rfl, rfl⟩ hnext
  by_cases hlt : p < s.size
  · have hwd := decode_wide s hlt
    rw [rsF_lt hlt, List.map_cons, fstF] at hn
    repeat (first | refine yy ?_ | refine yx fun _ => ?_ | (refine runL_op (st_nextS rfl (by (repeat (first | with_reducible apply Upd.here | with_reducible apply Upd.there | with_reducible apply Upd.append_left))) hlt) rfl rfl rfl ?_; rintro _ _ _ ⟨rfl, rfl, rfl⟩) | refine run_cond (t := true) rfl (fun _ => ?_) (fun h => by cases h) | refine qc (of_ok _ _ _) ?_)
    generalize (Utf8.decode s p).1 = r at *
    generalize (Utf8.decode s p).2 = w at *
    refine run_cond (t := (ofR r == 0 && (r : Int) != 45) && (decide ((r : Int) < 48) || decide ((r : Int) > 57))) rfl (fun h3 => ?_) (fun h3 => ?_)
    · have ho : oddR r = true := by simp at h3; simp [oddR, h3]
      rw [if_pos ho] at hn
      repeat (first | refine yy ?_ | refine yx fun _ => ?_)
      refine run_cond (t := true) rfl (fun _ => ?_) (fun h => by cases h)
      repeat (first | refine yy ?_ | refine yx fun _ => ?_)
      refine run_ret hC (rs := [.tmp 2, .tmp 3]) rfl (resT rfl (resT rfl resN)) (fun _ h => h.drop) ⟨?_, rfl, rfl⟩
      rw [firstN, if_neg h24, if_neg h45, ← hn]; rfl
    have ho : oddR r = false := by
      rw [Bool.eq_false_iff]
      intro h
      simp only [oddR, Bool.and_eq_true, decide_eq_true_eq, Bool.or_eq_true] at h
      simp [h] at h3
      omega
    rw [ho, if_neg (by decide)] at hn
    repeat (first | refine yy ?_ | refine yx fun _ => ?_)
    refine run_cond (t := k == 0) rfl (fun h4 => ?_) (fun h4 => ?_)
    · rw [if_pos (by simpa using h4)] at hn
      repeat (first | refine yy ?_ | refine yx fun _ => ?_)
      exact run_sub' (hnext _ _ _ ⟨by omega, p + w, _, e, by omega, hn, rfl, rfl, rfl⟩) ⟨rfl, rfl, rfl, rfl, trivial⟩
    rw [if_neg (by simpa using h4)] at hn
    repeat (first | refine yy ?_ | refine yx fun _ => ?_)
    refine run_cond (t := ofR r != 0 && ofR r != k) rfl (fun h5 => ?_) (fun h5 => ?_)
    · rw [if_pos (by simpa using h5)] at hn
      repeat (first | refine yy ?_ | refine yx fun _ => ?_)
      exact run_sub' (hnext _ _ _ ⟨by omega, p + w, _, _, by omega, hn, rfl, rfl, rfl⟩) ⟨rfl, rfl, rfl, rfl, trivial⟩
    · rw [if_neg (by simpa using h5)] at hn
      repeat (first | refine yy ?_ | refine yx fun _ => ?_)
      exact run_sub' (hnext _ _ _ ⟨by omega, p + w, _, _, by omega, hn, rfl, rfl, rfl⟩) ⟨rfl, rfl, rfl, rfl, trivial⟩
  · rw [rsF_ge hlt, List.map_nil, fstF] at hn
    repeat (first | refine yy ?_ | refine yx fun _ => ?_ | refine runL_q (qt_nextEnd rfl (by (repeat (first | with_reducible apply List.mem_cons_self | with_reducible assumption | with_reducible apply List.mem_cons_of_mem | with_reducible apply List.mem_append_right))) hlt) rfl rfl rfl ?_ | refine run_cond (t := false) rfl (fun h => by cases h) (fun _ => ?_))
    refine run_cond (t := e != 0) rfl (fun h3 => ?_) (fun h3 => ?_)
    · repeat (first | refine yy ?_ | refine yx fun _ => ?_)
      refine run_ret hC (rs := [.tmp 2, .tmp 3]) rfl (resT rfl (resT rfl resN)) (fun _ h => h.drop) ⟨?_, rfl, rfl⟩
      rw [firstN, if_neg h24, if_neg h45, ← hn, if_pos (by simpa using h3)]; rfl
    · repeat (first | refine yy ?_ | refine yx fun _ => ?_)
      refine run_ret hC (rs := [.tmp 2, .tmp 3]) rfl (resT rfl (resT rfl resN)) (fun _ h => h.drop) ⟨?_, rfl, rfl⟩
      rw [firstN, if_neg h24, if_neg h45, ← hn, if_neg (by simpa using h3)]; rfl
def checkN (s : ByteArray) : Int := (firstN s).2
theorem ncheck_ok (M : Mem) (L : HL) (s : ByteArray) (hs : s.size < 1000000) : TrQ Tryz.prog 47 [.string s] M L (.int .i64 (checkN s)) := by
  refine Tr.intro 11 Tryz.func47 rfl rfl Tryz.call47 rfl ?_; intro C hC hro
  repeat (first | refine yy ?_ | refine yx fun _ => ?_ | refine qc (first_ok _ _ s hs) ?_)
  exact run_ret hC (rs := [.tmp 2]) rfl (resT rfl resN) (fun _ h => h) ⟨rfl, rfl, rfl⟩
end Go.Proofs.YtladcmfbkiogbaaGreatDoor
namespace Go.Proofs.YtladcmfbkiogbaaGreatDoor
open Go.Chi
set_option maxRecDepth 10000
def iC (n : Int) : List Value := [.int .i32 n]
structure Lk where
  to : Int
  b : Nat
  rs : List Int
def lkC (x : Lk) : List Value := [.int .i32 x.to, .slice (some ⟨x.b, 0, none⟩) x.rs.length x.rs.length]
theorem keyR : KeyLaw Tryz.prog 21 (fun n : Int => .int .i32 n) := keyInt tok rfl
def tabL : List (Int × List Int) := [(97, [945, 1072]), (98, [1074]), (99, [1089]), (101, [1077]), (105, [953]), (107, [954, 1082]), (109, [1084]), (110, [951, 1085]), (111, [959, 1086]), (112, [961, 1088]), (116, [964, 1090]), (117, [965]), (118, [957]), (120, [967, 1093]), (121, [947, 1091])]
def stepO (o : Int → Option Int) (x : Int × List Int) : Int → Option Int := fun r => if r ∈ x.2 then some x.1 else o r
def kv0 : KV Int := [(48, .int .i32 111, 0), (49, .int .i32 108, 1)]
def o0 : Int → Option Int := fun r => if r = 48 then some 111 else if r = 49 then some 108 else none
def lookO : Int → Option Int := tabL.foldl stepO o0
def mapI (o : Option Int) : Option Value := o.map (.int .i32 ·)
theorem kv0_get (r : Int) : kvGet kv0 r = mapI (o0 r) := by
  unfold kv0 o0
  simp only [kvGet]
  by_cases h1 : r = 48
  · subst h1; rfl
  · by_cases h2 : r = 49
    · subst h2; rfl
    · simp [h1, h2, mapI]
abbrev mpO (b : Nat) (es : KV Int) (clock : Nat) : Nat × Obj := (b, .map ⟨ents (fun n : Int => .int .i32 n) es⟩ clock)
theorem Lk.at_ {M : Mem} {a : Option Addr} {len : Nat} {xs : List Lk} (h : SlM M 2 a len (xs.map lkC)) {j : Nat} (hj : j < len) : ∃ b off m, a = some ⟨b, off, none⟩ ∧ xs[j]? = some m ∧ Cells M [] b (off + j * 2) (lkC m) := by
  obtain ⟨b, off, c, ha, hc, _, hcells⟩ := h.at_ hj
  obtain ⟨m, hm, rfl⟩ : ∃ m, xs[j]? = some m ∧ lkC m = c := by simpa using hc
  exact ⟨b, off, m, ha, hm, hcells⟩
theorem SlI.at_ {M : Mem} {a : Option Addr} {len : Nat} {xs : List Int} (h : SlM M 1 a len (xs.map iC)) {j : Nat} (hj : j < len) : ∃ b off m, a = some ⟨b, off, none⟩ ∧ xs[j]? = some m ∧ Cells M [] b (off + j * 1) (iC m) := by
  obtain ⟨b, off, c, ha, hc, _, hcells⟩ := h.at_ hj
  obtain ⟨m, hm, rfl⟩ : ∃ m, xs[j]? = some m ∧ iC m = c := by simpa using hc
  exact ⟨b, off, m, ha, hm, hcells⟩
set_option maxHeartbeats 4000000 in
theorem looks_ok (M : Mem) (L : HL) : Tr Tryz.prog 155 [] M L (fun v M' L' => M.le M' ∧ ∃ b es clock, v = .map (some b) ∧ L' = mpO b es clock :: L ∧ ∀ r, kvGet es r = mapI (lookO r)) := by
  refine Tr.intro 58 Tryz.func155 rfl rfl Tryz.call155 rfl ?_; intro C hC hro
  repeat (first | refine yy ?_ | refine yx fun _ => ?_ | (refine runL_op (st_makeMapE (fun n : Int => .int .i32 n)) rfl rfl rfl ?_; rintro _ _ _ ⟨bm, rfl, rfl, rfl⟩) | (refine runL_op0 (st_mapUpdate tok keyR (.inr rfl) rfl rfl rfl rfl rfl (by (repeat (first | with_reducible apply Upd.here | with_reducible apply Upd.there | with_reducible apply Upd.append_left)))) ?_; rintro _ _ _ ⟨rfl, rfl, rfl⟩))
  rename_i c1 c2 c3 c4 c5 c6 c7 c8 c9 c10 c11 c12 c13 c14 c15 bo
  refine run_frzL [_, _, _, _, _, _, _, _, _, _, _, _, _, _, _, _] fun M1 hM1 hb => ?_
  simp only [List.forall_mem_cons] at hb
  obtain ⟨T, hT, hsl, hrows⟩ : ∃ T : List Lk, T.map (fun x => (x.to, x.rs)) = tabL ∧ SlM M1 2 (some ⟨bo, 0, none⟩) 15 (T.map lkC) ∧ (∀ x ∈ T, SlM M1 1 (some ⟨x.b, 0, none⟩) x.rs.length (x.rs.map iC)) := by
    refine ⟨[⟨97, c1, [945, 1072]⟩, ⟨98, c2, [1074]⟩, ⟨99, c3, [1089]⟩, ⟨101, c4, [1077]⟩, ⟨105, c5, [953]⟩, ⟨107, c6, [954, 1082]⟩, ⟨109, c7, [1084]⟩, ⟨110, c8, [951, 1085]⟩, ⟨111, c9, [959, 1086]⟩, ⟨112, c10, [961, 1088]⟩, ⟨116, c11, [964, 1090]⟩, ⟨117, c12, [965]⟩, ⟨118, c13, [957]⟩, ⟨120, c14, [967, 1093]⟩, ⟨121, c15, [947, 1091]⟩], rfl, SlM.ofBlk (size := 2) hb.1 rfl (fun c hc => by obtain ⟨x, _, rfl⟩ := List.mem_map.1 hc; rfl), ?_⟩
    have one : ∀ (rs : List Int) (b : Nat), M1.blk b = some (.cells ⟨(rs.map iC).flatten⟩ 21 (0, 0)) → SlM M1 1 (some ⟨b, 0, none⟩) rs.length (rs.map iC) := fun rs b h => by
      have := SlM.ofBlk (size := 1) h rfl (fun c hc => by obtain ⟨x, _, rfl⟩ := List.mem_map.1 hc; rfl)
      rwa [List.length_map] at this
    obtain ⟨_, h15, h14, h13, h12, h11, h10, h9, h8, h7, h6, h5, h4, h3, h2, h1, _⟩ := hb
    simp only [List.forall_mem_cons]
    exact ⟨one _ _ h1, one _ _ h2, one _ _ h3, one _ _ h4, one _ _ h5, one _ _ h6, one _ _ h7, one _ _ h8, one _ _ h9, one _ _ h10, one _ _ h11, one _ _ h12, one _ _ h13, one _ _ h14, one _ _ h15, by simp⟩
  clear hb
  refine run_mem (M' := M1) (L' := mpO bm kv0 2 :: L) (fun _ h => h) ?_
  have hTl : T.length = 15 := by
    have := congrArg List.length hT
    rw [List.length_map] at this
    exact this
  refine run_loopN (fun i σ1 M2 L1 => i ≤ 15 ∧ M1 = M2 ∧ (∃ es clock, L1 = mpO bm es clock :: L ∧ ∀ r, kvGet es r = mapI ((tabL.take i).foldl stepO o0 r)) ∧ σ1 = [(40, iv i), (39, iv 15), (38, .slice (some ⟨bo, 0, none⟩) 15 15), (1, .map (some bm))]) 15 [(40, iv 0), (39, iv 15), (38, .slice (some ⟨bo, 0, none⟩) 15 15), (1, .map (some bm))] ?_ ⟨Nat.zero_le _, rfl, ⟨_, _, rfl, kv0_get⟩, rfl⟩ (fun j _ _ _ h => h.1) ?_
  · exact ⟨rfl, rfl, rfl, rfl, trivial⟩
  rintro i _ _ _ ⟨hi, rfl, ⟨es, clock, rfl, hes⟩, rfl⟩ hnext
  repeat (first | refine yy ?_ | refine yx fun _ => ?_)
  refine run_cond rfl (fun h1 => ?_) (fun h1 => ?_)
  · have hlt : i < 15 := by simp at h1; omega
    obtain ⟨b, off, x, ha, hx, hc⟩ := Lk.at_ hsl hlt
    cases ha
    have hr := hrows x (List.mem_of_getElem? hx)
    have hx2 : tabL[i]? = some (x.to, x.rs) := by rw [← hT, List.getElem?_map, hx]; rfl
    have hx3 : x.rs.length ≤ 2 := (by decide : ∀ p ∈ tabL, p.2.length ≤ 2) _ (List.mem_of_getElem? hx2)
    repeat (first | refine yy ?_ | refine yx fun _ => ?_)
    refine run_loopN (fun j σ1 M3 L1 => j ≤ x.rs.length ∧ M1 = M3 ∧ (∃ es clock b3, L1 = (b3, .cells ⟨lkC x⟩ 221 (0, 0)) :: mpO bm es clock :: L ∧ (∀ r, kvGet es r = mapI (stepO ((tabL.take i).foldl stepO o0) (x.to, x.rs.take j) r)) ∧ σ1 = [(47, iv j), (46, iv x.rs.length), (45, .slice (some ⟨x.b, 0, none⟩) x.rs.length x.rs.length), (3, pt b3), (40, iv i), (39, iv 15), (38, .slice (some ⟨bo, 0, none⟩) 15 15), (1, .map (some bm))])) x.rs.length [(47, iv 0), (46, iv x.rs.length), (45, .slice (some ⟨x.b, 0, none⟩) x.rs.length x.rs.length), (3, pt _), (40, iv i), (39, iv 15), (38, .slice (some ⟨bo, 0, none⟩) 15 15), (1, .map (some bm))] ?_ ⟨Nat.zero_le _, rfl, _, _, _, rfl, (fun r => by rw [hes]; simp [stepO]), rfl⟩ (fun j _ _ _ h => h.1) ?_
    · exact ⟨rfl, rfl, rfl, rfl, rfl, rfl, rfl, rfl, trivial⟩
    clear hes
    rintro j _ _ _ ⟨hj, rfl, es, clock, b3, rfl, hes, rfl⟩ hnext2
    repeat (first | refine yy ?_ | refine yx fun _ => ?_)
    refine run_cond rfl (fun h2 => ?_) (fun h2 => ?_)
    · have hlt2 : j < x.rs.length := by simpa using h2
      obtain ⟨b2, off2, q, ha2, hq, hc2⟩ := SlI.at_ hr hlt2
      cases ha2
      repeat (first | refine yy ?_ | refine yx fun _ => ?_ | (refine runL_op0 (st_mapUpdate tok keyR (.inl rfl) rfl rfl rfl rfl rfl (by (repeat (first | with_reducible apply Upd.here | with_reducible apply Upd.there | with_reducible apply Upd.append_left)))) ?_; rintro _ _ _ ⟨rfl, rfl, rfl⟩))
      refine run_sub' (hnext2 _ _ _ ⟨hlt2, rfl, _, _, _, rfl, fun r => ?_, rfl⟩) ⟨lk_succ rfl (by omega), rfl, rfl, rfl, rfl, rfl, rfl, rfl, trivial⟩
      rw [kvGet_set, hes, take_snoc hq]
      unfold stepO
      by_cases e : r = q
      · subst e; simp [mapI]
      · simp [e]
    · have hge : j = x.rs.length := by simp at h2; omega
      repeat (first | refine yy ?_ | refine yx fun _ => ?_)
      refine run_mem (fun _ h => h.drop) ?_
      refine run_sub' (hnext _ _ _ ⟨hlt, rfl, ⟨_, _, rfl, fun r => ?_⟩, rfl⟩) ⟨lk_succ rfl (by omega), rfl, rfl, rfl, trivial⟩
      rw [hes, take_snoc hx2, List.foldl_append, hge, List.take_length]
      rfl
  · have hge : i = 15 := by simp at h1; omega
    subst hge
    repeat (first | refine yy ?_ | refine yx fun _ => ?_)
    exact run_ret hC (rs := [.tmp 0]) rfl (resT rfl resN) (fun _ h => h) ⟨hM1, _, _, _, rfl, rfl, hes⟩
end Go.Proofs.YtladcmfbkiogbaaGreatDoor
namespace Go.Chi
section
variable {P : Program} {T : TT} {ro : Option Nat} {σ : Env} {δ : Den} {cur : Path} {M : Mem} {L : HL} {d : Option Nat} {ty : TypeId} {pos : String} {aft : Array Edge} {g : Option (Nat × Bool)} {v : Value}
theorem qt_runesStr (hT : TOk P T) {s t e : TypeId} {x : Operand} {a : Option Addr} {n c : Nat} {ns : List Int} (hs' : und T s = some (.slice e)) (he : und T e = some (.int .i32)) (hu : und T t = some .string) (hx : ev σ δ cur x = some (.slice a n c)) (hs : SlM M 1 a n (ns.map fun z => [Value.int .i32 z])) :
    Qt P ro ⟨d, .convert s t x, ty, pos, aft, g⟩ σ δ cur M L (.string (runesBytes ns)) :=
  qt_of_run (semAt_of (by intro c e; cases e)) fun act w hsee hcur hp => by
    have h4 := run_convert_runes_string (P := P) w s t e a n c (und_ok hT hs') (und_ok hT he) (und_ok hT hu)
    have hl : ns.length = n := by have := hs.1; simpa using this
    have h3 : (Conv.runesToString (.slice a n c)).run P w = .ok (.string (runesBytes ns)) w := by
      cases a with
      | none =>
        rcases hs.2.2 with h | ⟨b, off, h, _⟩
        · rw [List.map_eq_nil_iff.1 h]; rfl
        · cases h
      | some a =>
        refine run_runesToString w a n c ns ?_
        have h2 : ∀ j v, (ns.map (Value.int .i32))[j]? = some v → w.cell? (a.add j) = some v := fun j v hj => by
          rcases hs.2.2 with h | ⟨b, off, h, hc⟩
          · rw [List.map_eq_nil_iff.1 h] at hj; simp at hj
          · cases h
            rw [List.getElem?_map] at hj
            obtain ⟨z, hz, rfl⟩ := Option.map_eq_some_iff.1 hj
            have h5 := hc j [.int .i32 z] (by rw [List.getElem?_map, hz]; rfl)
            have h6 : Cells M L b (off + j * 1) [.int .i32 z] := h5.mono fun o ho => by
              rcases ho with ho | ho
              · cases ho
              · exact .inr ho
            have := h6.cell hp (i := 0) (v := .int .i32 z) rfl
            simpa [add_none] using this
        have := run_loadCells_list (P := P) (w := w) a (ns.map (Value.int .i32)) h2
        rw [List.length_map, hl] at this
        exact this
    simp only [execOp, ev_sound hsee hcur hx, Sem.run_bind, h4, h3, Result.andThen_ok, Sem.run_pure]
end
end Go.Chi
namespace Go.Proofs.YtladcmfbkiogbaaGreatDoor
open Go.Chi
set_option maxRecDepth 10000
def lookR (r : Nat) : Int := (lookO r).getD r
def lookL (s : ByteArray) : List Int := (runesL s).map lookR
theorem iC_one (x : Int) : ∀ u ∈ iC x, u.oneCell' = true := by intro u hu; simp [iC] at hu; subst hu; rfl
set_option maxHeartbeats 4000000 in
theorem look_ok (M : Mem) (L : HL) (s : ByteArray) (hs : s.size < 1000000) : Tr Tryz.prog 123 [.string s] M L (fun v M' L' => M.le M' ∧ L' = L ∧ ∃ a c, v = .slice a (lookL s).length c ∧ SlM M' 1 a (lookL s).length ((lookL s).map iC)) := by
  have hlen : (lookL s).length ≤ s.size := by
    have := rsF_len s s.size 0 (by omega)
    simp only [lookL, runesL, List.length_map]; omega
  refine Tr.intro 28 Tryz.func123 rfl rfl Tryz.call123 rfl ?_; intro C hC hro
  repeat (first | refine yy ?_ | refine yx fun _ => ?_ | (refine oc (looks_ok _ _) ?_; rintro _ M1 _ ⟨hM1, bm, es, clock, rfl, rfl, hes⟩) | (refine runL_op (st_rangeS tok rfl rfl) rfl rfl rfl ?_; rintro _ _ _ ⟨b, rfl, rfl, rfl⟩))
  refine run_loopN (fun i σ1 M2 L1 => i ≤ s.size ∧ M1 = M2 ∧ ∃ p xs a c N, i ≤ p ∧ xs.length ≤ i ∧ xs ++ ((rsF s p).map Prod.snd).map lookR = lookL s ∧ OS 21 1 (.slice a xs.length c) xs.length (xs.map iC).flatten N ∧ L1 = N ++ (b, .stringIter s p) :: mpO bm es clock :: L ∧ σ1 = [(11, pt b), (4, .slice a xs.length c), (3, .map (some bm))]) s.size [(11, pt b), (4, .slice none 0 0), (3, .map (some bm))] ?_ ⟨Nat.zero_le _, rfl, 0, [], none, 0, [], Nat.le_refl _, Nat.le_refl _, rfl, OS.nil _ _, rfl, rfl⟩ (fun j _ _ _ h => h.1) ?_
  · exact ⟨rfl, rfl, rfl, trivial⟩
  rintro i _ _ _ ⟨hi, rfl, p, xs, a, c, N, hip, hxi, hn, hO, rfl, rfl⟩ hnext
  by_cases hlt : p < s.size
  · have hwd := decode_wide s hlt
    rw [rsF_lt hlt, List.map_cons, List.map_cons] at hn
    have hm : (bm, Obj.map ⟨ents (fun n : Int => Value.int .i32 n) es⟩ clock) ∈ N ++ (b, Obj.stringIter s (p + (Utf8.decode s p).2)) :: mpO bm es clock :: L := List.mem_append_right _ (List.mem_cons_of_mem _ List.mem_cons_self)
    repeat (first | refine yy ?_ | refine yx fun _ => ?_ | (refine runL_op (st_nextS rfl (by (repeat (first | with_reducible apply Upd.here | with_reducible apply Upd.there | with_reducible apply Upd.append_left))) hlt) rfl rfl rfl ?_; rintro _ _ _ ⟨rfl, rfl, rfl⟩) | refine run_cond (t := true) rfl (fun _ => ?_) (fun h => by cases h) | refine rq (qt_lookupG tok keyR rfl rfl rfl rfl (.inl hm) rfl (hes _)) ?_ | (refine runL_as 15 (.tuple ⟨[.int .i32 ((lookO ((Utf8.decode s p).1 : Int)).getD 0), .bool (lookO ((Utf8.decode s p).1 : Int)).isSome]⟩) rfl (by cases lookO ((Utf8.decode s p).1 : Int) <;> rfl) ?_; refine yy ?_; refine yy ?_; refine yy ?_; refine yy ?_))
    generalize (Utf8.decode s p).1 = r at *
    generalize (Utf8.decode s p).2 = w at *
    refine run_condJ [(11, pt b), (4, .slice a xs.length c), (3, .map (some bm)), (6, .int .i32 (lookR r))] rfl (fun h1 hk => ?_) (fun h1 hk => ?_) ?_
    · have hv : (lookO (r : Int)).getD 0 = lookR r := by
        obtain ⟨x, hx⟩ := Option.isSome_iff_exists.1 h1
        rw [lookR, hx]; rfl
      iterate 4 refine yy ?_
      exact run_sub' hk ⟨rfl, rfl, rfl, congrArg (fun z => some (Value.int .i32 z)) hv, trivial⟩
    · have hv : (r : Int) = lookR r := by
        have h2 : lookO (r : Int) = none := by cases h : lookO (r : Int) with | none => rfl | some x => rw [h] at h1; cases h1
        rw [lookR, h2]; rfl
      refine yy ?_
      exact run_sub' hk ⟨rfl, rfl, rfl, congrArg (fun z => some (Value.int .i32 z)) hv, trivial⟩
    have hxl : xs.length + 1 ≤ (lookL s).length := by rw [← hn]; simp
    repeat (first | refine yy ?_ | refine yx fun _ => ?_ | (refine ro (st_app1 tok rfl rfl rfl rfl rfl rfl rfl rfl hO rfl (iC_one _) (by omega) (by omega)) ?_; rintro _ _ _ ⟨rfl, N', a', c', rfl, rfl, hO'⟩))
    refine run_sub' (hnext _ _ _ ⟨by omega, rfl, p + w, xs ++ [lookR r], a', c', N', by omega, by simp; omega, by simpa using hn, by rw [List.length_append, List.map_append, List.flatten_append]; exact hO', rfl, rfl⟩) ⟨rfl, by rw [List.length_append]; rfl, rfl, trivial⟩
  · rw [rsF_ge hlt, List.map_nil, List.map_nil, List.append_nil] at hn
    repeat (first | refine yy ?_ | refine yx fun _ => ?_ | refine runL_q (qt_nextEnd rfl (by (repeat (first | with_reducible apply List.mem_cons_self | with_reducible assumption | with_reducible apply List.mem_cons_of_mem | with_reducible apply List.mem_append_right))) hlt) rfl rfl rfl ?_ | refine run_cond (t := false) rfl (fun h => by cases h) (fun _ => ?_))
    refine run_retE hC (rs := [.tmp 2]) rfl (resT rfl resN) fun w hw => ?_
    obtain ⟨M2, a2, c2, q1, q2, q3, q4⟩ := hw.freezeOS hO (by simp) (fun c hc => by obtain ⟨x, _, rfl⟩ := List.mem_map.1 hc; rfl)
    subst hn
    exact ⟨M2, L, q2.drop.drop, Mem.le_trans hM1 q1, rfl, a2, c2, q3, q4⟩
def skelB (s : ByteArray) : ByteArray := Go.runesBytes (lookL s)
set_option maxHeartbeats 4000000 in
theorem skel_ok (M : Mem) (L : HL) (s : ByteArray) (hs : s.size < 1000000) : TrQ Tryz.prog 86 [.string s] M L (.tuple ⟨[.string (if checkN s = 0 then skelB s else ⟨#[]⟩), .int .i64 (checkN s)]⟩) := by
  refine Tr.intro 13 Tryz.func86 rfl rfl Tryz.call86 rfl ?_; intro C hC hro
  repeat (first | refine yy ?_ | refine yx fun _ => ?_ | refine qc (ncheck_ok _ _ s hs) ?_)
  refine run_cond (t := checkN s != 0) rfl (fun h => ?_) (fun h => ?_)
  · have h0 : ¬ checkN s = 0 := by simpa using h
    repeat (first | refine yy ?_ | refine yx fun _ => ?_)
    exact run_ret hC (rs := [.tmp 2, .tmp 3]) rfl (resT rfl (resT rfl resN)) (fun _ h => h) ⟨by rw [if_neg h0]; rfl, rfl, rfl⟩
  · have h0 : checkN s = 0 := by simpa using h
    repeat (first | refine yy ?_ | refine yx fun _ => ?_ | (refine oc (look_ok _ _ s hs) ?_; rintro _ M1 _ ⟨hM1, rfl, a, c, rfl, hsl⟩) | refine rq (qt_runesStr tok rfl rfl rfl rfl hsl) ?_)
    exact run_ret hC (rs := [.tmp 2, .tmp 3]) rfl (resT rfl (resT rfl resN)) (fun _ h => h.of_le hM1) ⟨by rw [if_pos h0, h0]; rfl, rfl, rfl⟩
def clashB (a b : ByteArray) : Bool := decide (checkN a = 0) && (decide (checkN b = 0) && (decide (a ≠ b) && decide (skelB a = skelB b)))
set_option maxHeartbeats 4000000 in
theorem clash_ok (M : Mem) (L : HL) (a b : ByteArray) (ha : a.size < 1000000) (hb : b.size < 1000000) : TrQ Tryz.prog 49 [.string a, .string b] M L (.bool (clashB a b)) := by
  refine Tr.intro 35 Tryz.func49 rfl rfl Tryz.call49 rfl ?_; intro C hC hro
  repeat (first | refine yy ?_ | refine yx fun _ => ?_ | refine qc (skel_ok _ _ a ha) ?_ | refine qc (skel_ok _ _ b hb) ?_)
  refine run_ret hC (rs := [.tmp 4]) rfl (resT rfl resN) (fun _ h => h) ⟨?_, rfl, rfl⟩
  show Value.bool _ = _
  rw [clashB, bytes_beq, bytes_beq]
  congr 1
  by_cases h1 : checkN a = 0 <;> by_cases h2 : checkN b = 0 <;> by_cases h3 : a = b <;> simp [h1, h2, h3]
end Go.Proofs.YtladcmfbkiogbaaGreatDoor
namespace Go.Proofs.YtladcmfbkiogbaaGreatDoor
open Go.Chi
set_option maxRecDepth 10000
def badN (s : ByteArray) : Bool := checkN s != 0
theorem roll1_ok (M : Mem) (L : HL) (s : ByteArray) (hs : s.size < 1000000) : TrQ Tryz.prog 46 [.string s] M L (.bool (badN s)) := by
  refine Tr.intro 6 Tryz.func46 rfl rfl Tryz.call46 rfl ?_; intro C hC hro
  repeat (first | refine yy ?_ | refine yx fun _ => ?_ | refine qc (ncheck_ok _ _ s hs) ?_)
  exact run_ret hC (rs := [.tmp 2]) rfl (resT rfl resN) (fun _ h => h) ⟨rfl, rfl, rfl⟩
set_option maxHeartbeats 4000000 in
theorem indexS_ok (M : Mem) (L : HL) (s : SStr) (hs : StOk M s) (hz : ∀ x ∈ s.xs, x.size < 1000000) :
    Tr Tryz.prog 83 [s.v, .func (.func 46) ⟨[]⟩ ⟨[]⟩] M L (fun v M' L' => ∃ n : Int, v = .int .i64 n ∧ decide (n ≥ 0) = s.xs.any badN ∧ M = M' ∧ L = L') := by
  have hl := hs.len
  have h6 := hs.2
  have h0 := hs.1
  obtain ⟨a, n, c, xs⟩ := s
  simp only [SStr.v, SStr.Ok] at *
  refine Tr.intro 19 Tryz.func83 rfl rfl Tryz.call83 rfl ?_; intro C hC hro
  repeat (first | refine yy ?_ | refine yx fun _ => ?_)
  refine run_loopN (fun j σ1 M1 L1 => j ≤ n ∧ M = M1 ∧ L = L1 ∧ ((xs.take j).any badN) = false ∧ σ1 = [(8, iv j), (7, iv n), (0, .slice a n c), (1, .func (.func 46) ⟨[]⟩ ⟨[]⟩)]) n [(8, iv 0), (7, iv n), (0, .slice a n c), (1, .func (.func 46) ⟨[]⟩ ⟨[]⟩)] ?_ ⟨Nat.zero_le _, rfl, rfl, by simp, rfl⟩ (fun j _ _ _ h => h.1) ?_
  · exact ⟨rfl, rfl, rfl, rfl, trivial⟩
  rintro j _ _ _ ⟨hj, rfl, rfl, hpre, rfl⟩ hnext
  repeat (first | refine yy ?_ | refine yx fun _ => ?_)
  refine run_cond rfl (fun h1 => ?_) (fun h1 => ?_)
  · have hlt : j < n := by simpa using h1
    obtain ⟨b, off, m, rfl, hm, hc⟩ := SStr.at_ h0 hlt
    repeat (first | refine yy ?_ | refine yx fun _ => ?_ | refine runL_q (st_callV rfl rfl (fun _ => roll1_ok _ _ m (hz m (List.mem_of_getElem? hm)))) rfl rfl rfl ?_)
    refine run_cond rfl (fun h2 => ?_) (fun h2 => ?_)
    · repeat (first | refine yy ?_ | refine yx fun _ => ?_)
      exact run_ret hC (rs := [.tmp 4]) rfl (resT rfl resN) (fun _ h => h) ⟨j, rfl, by rw [any_true _ hm h2]; simp, rfl, rfl⟩
    · repeat (first | refine yy ?_ | refine yx fun _ => ?_)
      exact run_sub' (hnext _ _ _ ⟨hlt, rfl, rfl, by rw [any_snoc _ hm hpre]; exact h2, rfl⟩) ⟨lk_succ rfl (by omega), rfl, rfl, rfl, trivial⟩
  · have hge : j = n := by simp at h1; omega
    rw [hge, List.take_of_length_le (by omega)] at hpre
    repeat (first | refine yy ?_ | refine yx fun _ => ?_)
    exact run_ret hC (rs := [.tmp 4]) rfl (resT rfl resN) (fun _ h => h) ⟨-1, rfl, by rw [hpre]; rfl, rfl, rfl⟩
theorem containsS_ok (M : Mem) (L : HL) (s : SStr) (hs : StOk M s) (hz : ∀ x ∈ s.xs, x.size < 1000000) :
    TrQ Tryz.prog 45 [s.v, .func (.func 46) ⟨[]⟩ ⟨[]⟩] M L (.bool (s.xs.any badN)) := by
  refine Tr.intro 9 Tryz.func45 rfl rfl Tryz.call45 rfl ?_; intro C hC hro
  repeat (first | refine yy ?_ | refine yx fun _ => ?_ | (refine oc (indexS_ok _ _ s hs hz) ?_; rintro _ _ _ ⟨n, rfl, hn, rfl, rfl⟩))
  exact run_ret hC (rs := [.tmp 4]) rfl (resT rfl resN) (fun _ h => h) ⟨by rw [← hn]; rfl, rfl, rfl⟩
def blkP (xs : List ByteArray) (k : Nat) : List (ByteArray × ByteArray) := (xs.take k).map fun a => (a, xs.getD k ⟨#[]⟩)
def prsK (xs : List ByteArray) : Nat → List (ByteArray × ByteArray)
  | 0 => []
  | k + 1 => prsK xs k ++ blkP xs k
def prs (xs : List ByteArray) : List (ByteArray × ByteArray) := prsK xs xs.length
theorem prsK_pre (xs : List ByteArray) (k : Nat) : ∀ n, k ≤ n → ∃ r, prsK xs n = prsK xs k ++ r
  | 0, h => ⟨[], by rw [show k = 0 by omega]; rfl⟩
  | n + 1, h => by
    by_cases e : k = n + 1
    · exact ⟨[], by rw [e, List.append_nil]⟩
    · obtain ⟨r, hr⟩ := prsK_pre xs k n (by omega)
      exact ⟨r ++ blkP xs n, by rw [prsK, hr, List.append_assoc]⟩
theorem prs_at {xs : List ByteArray} {k j : Nat} {a b : ByteArray} (hk : xs[k]? = some b) (hj : xs[j]? = some a) (hjk : j < k) : (prs xs)[(prsK xs k).length + j]? = some (a, b) := by
  have hlt := (List.getElem?_eq_some_iff.1 hk).1
  obtain ⟨r, hr⟩ := prsK_pre xs (k + 1) xs.length (by omega)
  rw [prs, hr, prsK, List.append_assoc, List.getElem?_append_right (by omega), Nat.add_sub_cancel_left]
  have hl : (blkP xs k).length = k := by rw [blkP, List.length_map, List.length_take]; omega
  rw [List.getElem?_append_left (by omega), blkP, List.getElem?_map, List.getElem?_take, if_pos hjk, hj, List.getD_eq_getElem?_getD, hk]
  rfl
def prC (p : ByteArray × ByteArray) : List Value := [.string p.1, .string p.2]
theorem subA0 (s b off c : Nat) : subA s (some ⟨b, off, none⟩) c 0 = some ⟨b, off, none⟩ := by
  unfold subA
  split <;> simp [add_none]
set_option maxHeartbeats 8000000 in
theorem ahead1_ok (M : Mem) (s : SStr) (bt : Nat) (hb : Cells M [] bt 0 [s.v]) (hs : StOk M s) (hcap : s.len ≤ s.cap) :
    IterM Tryz.prog 85 [pt bt] M ((prs s.xs).map prC) := by
  intro lp I X M0 L0 hle hmono hyield hI
  have hl := hs.len
  have h6 := hs.2
  have h0 : SlM M0 1 s.a s.len (s.xs.map stC) := hs.1.le hle
  have hb0 := hb.le hle
  obtain ⟨a, n, c, xs⟩ := s
  simp only [SStr.v] at *
  refine Tr.intro 29 Tryz.func85 rfl rfl Tryz.call85 rfl ?_; intro C hC hro
  repeat (first | refine yy ?_ | refine yx fun _ => ?_)
  refine run_loopN (fun k σ1 M1 L1 => k ≤ n ∧ M0.le M1 ∧ I (prsK xs k).length M1 L1 ∧ σ1 = [(9, iv k), (8, iv n), (7, .slice a n c), (0, yv lp), (1, pt bt)]) n [(9, iv 0), (8, iv n), (7, .slice a n c), (0, yv lp), (1, pt bt)] ?_ ⟨Nat.zero_le _, Mem.le_refl _, hI, rfl⟩ (fun j _ _ _ h => h.1) ?_
  · exact ⟨rfl, rfl, rfl, rfl, rfl, trivial⟩
  rintro k _ M1 L1 ⟨hk, hM1, hIk, rfl⟩ hnext
  have hb1 := hb0.le hM1
  have h1 := h0.le hM1
  repeat (first | refine yy ?_ | refine yx fun _ => ?_)
  refine run_cond rfl (fun h2 => ?_) (fun h2 => ?_)
  · have hlt : k < n := by simpa using h2
    obtain ⟨b, off, m, rfl, hm, hc⟩ := SStr.at_ h1 hlt
    repeat (first | refine yy ?_ | refine yx fun _ => ?_ | refine rq (qt_sliceHi (n := k) tok rfl rfl rfl rfl (fun _ => by omega)) ?_)
    refine run_loopN (fun j σ1 M2 L2 => j ≤ k ∧ M0.le M2 ∧ I ((prsK xs k).length + j) M2 L2 ∧ σ1 = [(18, iv j), (17, iv k), (16, .slice (some ⟨b, off, none⟩) k c), (4, .string m), (9, iv k), (8, iv n), (7, .slice (some ⟨b, off, none⟩) n c), (0, yv lp), (1, pt bt)]) k [(18, iv 0), (17, iv k), (16, .slice (some ⟨b, off, none⟩) k c), (4, .string m), (9, iv k), (8, iv n), (7, .slice (some ⟨b, off, none⟩) n c), (0, yv lp), (1, pt bt)] ?_ ⟨Nat.zero_le _, hM1, hIk, rfl⟩ (fun j _ _ _ h => h.1) ?_
    · exact ⟨rfl, rfl, congrArg some (by rw [subA0]), rfl, rfl, rfl, rfl, rfl, rfl, trivial⟩
    rintro j _ M2 L2 ⟨hj, hM2, hIj, rfl⟩ hnext2
    have h2' := h0.le hM2
    repeat (first | refine yy ?_ | refine yx fun _ => ?_)
    refine run_cond rfl (fun h3 => ?_) (fun h3 => ?_)
    · have hlt2 : j < k := by simpa using h3
      obtain ⟨b', off', x, ha, hx, hcx⟩ := SStr.at_ h2' (show j < n by omega)
      cases ha
      repeat (first | refine yy ?_ | refine yx fun _ => ?_ | (refine runL_op (st_yield rfl rfl (fun _ => hyield _ _ _ _ [] (by rw [List.getElem?_map, prs_at hm hx hlt2]; rfl) hM2 hIj)) rfl rfl rfl ?_; rintro v M4 _ ⟨L5, rfl, hM4, hv4⟩))
      rcases hv4 with ⟨rfl, hI5⟩ | ⟨rfl, hX⟩
      · repeat (first | refine yy ?_ | refine yx fun _ => ?_)
        refine run_cond rfl (fun h => by cases h) (fun _ => ?_)
        repeat (first | refine yy ?_ | refine yx fun _ => ?_)
        exact run_sub' (hnext2 _ _ _ ⟨hlt2, Mem.le_trans hM2 hM4, hI5, rfl⟩) ⟨lk_succ rfl (by omega), rfl, rfl, rfl, rfl, rfl, rfl, rfl, rfl, trivial⟩
      · repeat (first | refine yy ?_ | refine yx fun _ => ?_)
        refine run_cond rfl (fun _ => ?_) (fun h => by cases h)
        exact run_ret hC (rs := []) rfl resN (fun _ h => h) ⟨Mem.le_trans hM2 hM4, .inr ⟨_, hX⟩⟩
    · have hge : j = k := by simp at h3; omega
      subst hge
      repeat (first | refine yy ?_ | refine yx fun _ => ?_)
      refine run_sub' (hnext _ _ _ ⟨hlt, hM2, ?_, rfl⟩) ⟨lk_succ rfl (by omega), rfl, rfl, rfl, rfl, trivial⟩
      rw [prsK, List.length_append]
      have : (blkP xs j).length = j := by rw [blkP, List.length_map, List.length_take]; omega
      rw [this]
      exact hIj
  · have hge : k = n := by simp at h2; omega
    subst hge
    repeat (first | refine yy ?_ | refine yx fun _ => ?_)
    refine run_end hC rfl (vs := []) trivial (fun _ h => h) ⟨hM1, .inl ?_⟩
    rw [List.length_map, prs, hl]
    exact hIk
end Go.Proofs.YtladcmfbkiogbaaGreatDoor
namespace Go.Proofs.YtladcmfbkiogbaaGreatDoor
open Go.Chi
set_option maxRecDepth 10000
theorem ahead_ok (M : Mem) (L : HL) (s : SStr) (hs : StOk M s) (hcap : s.len ≤ s.cap) : Tr Tryz.prog 48 [s.v] M L (fun v M' L' => M.le M' ∧ L' = L ∧ ∃ bt, v = .func (.func 85) #[] ⟨[pt bt]⟩ ∧ IterM Tryz.prog 85 [pt bt] M' ((prs s.xs).map prC)) := by
  refine Tr.intro 4 Tryz.func48 rfl rfl Tryz.call48 rfl ?_; intro C hC hro
  repeat (first | refine yy ?_ | refine yx fun _ => ?_)
  rename_i bt
  refine run_retE hC (rs := [.tmp 2]) rfl (resT rfl resN) fun w hw => ?_
  obtain ⟨M', h1, h2, h3⟩ := hw.freeze1
  exact ⟨M', L, h3, h1, rfl, bt, rfl, ahead1_ok M' s bt (Cells.ofBlk h2) (hs.le h1) hcap⟩
def likeB (p : ByteArray × ByteArray) : Bool := decide (p.1 = p.2) || clashB p.1 p.2
def fineB (xs : List ByteArray) : Bool := (decide (1 ≤ xs.length) && decide (xs.length ≤ 8)) && !xs.any badN
def rollB (xs : List ByteArray) : Bool := fineB xs && !(prs xs).any likeB
theorem prs_mem {xs : List ByteArray} {p : ByteArray × ByteArray} (hp : p ∈ prs xs) : p.1 ∈ xs ∧ p.2 ∈ xs := by
  have key : ∀ k, k ≤ xs.length → p ∈ prsK xs k → p.1 ∈ xs ∧ p.2 ∈ xs := by
    intro k
    induction k with
    | zero => intro _ h; cases h
    | succ k ih =>
      intro hk h
      rcases List.mem_append.1 h with h | h
      · exact ih (by omega) h
      · obtain ⟨a, ha, rfl⟩ := List.mem_map.1 h
        refine ⟨List.mem_of_mem_take ha, ?_⟩
        rw [List.getD_eq_getElem?_getD, List.getElem?_eq_getElem (by omega)]
        exact List.getElem_mem _
  exact key _ (Nat.le_refl _) hp
set_option maxHeartbeats 8000000 in
theorem roll_ok (M : Mem) (L : HL) (s : SStr) (hs : StOk M s) (hcap : s.len ≤ s.cap) (hz : ∀ x ∈ s.xs, x.size < 1000000) : TrQ Tryz.prog 16 [s.v] M L (.int .i64 (if rollB s.xs = true then 0 else 2)) := by
  have hl := hs.len
  have h6 := hs.2
  refine Tr.intro 33 Tryz.func16 rfl rfl Tryz.call16 rfl ?_; intro C hC hro
  repeat (first | refine yy ?_ | refine yx fun _ => ?_ | refine gc (containsS_ok _ _ s hs hz) ?_)
  have hf : ((decide ((s.len : Int) ≥ 1) && decide ((s.len : Int) ≤ 8)) && !s.xs.any badN) = fineB s.xs := by
    rw [fineB, hl]
    congr 2 <;> simp
    all_goals omega
  refine run_cond (t := !((decide ((s.len : Int) ≥ 1) && decide ((s.len : Int) ≤ 8)) && !s.xs.any badN)) rfl (fun h => ?_) (fun h => ?_)
  · have h0 : rollB s.xs = false := by rw [rollB, ← hf]; rw [Bool.not_eq_true'] at h; rw [h]; rfl
    repeat (first | refine yy ?_ | refine yx fun _ => ?_)
    exact run_ret hC (rs := [.cell 2 29]) rfl (rl tok rfl resN) (fun _ h => h.drop) ⟨by rw [h0]; rfl, rfl, rfl⟩
  have hfine : fineB s.xs = true := by rw [← hf]; simpa using h
  have hroll : rollB s.xs = !(prs s.xs).any likeB := by rw [rollB, hfine]; rfl
  clear h hf
  repeat (first | refine yy ?_ | refine yx fun _ => ?_ | (refine oc (ahead_ok _ _ s hs hcap) ?_; rintro _ M1 _ ⟨hM1, rfl, bt, rfl, hit⟩))
  rename_i b2
  have hmem := fun p hp => prs_mem (xs := s.xs) (p := p) hp
  generalize prs s.xs = E at hit hroll hmem
  refine run_rangeM hro rfl hit rfl (by intro x hx; obtain ⟨p, _, rfl⟩ := List.mem_map.1 hx; rfl)
    (fun k M' L' => M1.le M' ∧ ((E.take k).any likeB) = false ∧ L' = (b2, .cells ⟨[.int .i64 0]⟩ 29 (0, 0)) :: L)
    (fun cd _ M' L' => cd = .ret ∧ M1.le M' ∧ (E.any likeB) = true ∧ L' = (b2, .cells ⟨[.int .i64 2]⟩ 29 (0, 0)) :: L)
    (fun k M2 M3 L2 h ⟨h1, h0, h2⟩ => ⟨Mem.le_trans h1 h, h0, h2⟩) ?_ ?_ ?_ ?_
  · exact ⟨Mem.le_refl _, rfl, rfl⟩
  · rintro j x M2 _ R R' C' hx hM2 ⟨hM2', hno, rfl⟩ B
    obtain ⟨p, hp, rfl⟩ : ∃ p, E[j]? = some p ∧ prC p = x := by simpa using hx
    obtain ⟨hp1, hp2⟩ := hmem p (List.mem_of_getElem? hp)
    simp only [List.cons_append]
    repeat (first | refine yy ?_ | refine yx fun _ => ?_)
    refine B.begin' ((b2, .cells ⟨[.int .i64 0]⟩ 29 (0, 0)) :: L) rfl ?_
    simp only [List.cons_append]
    repeat (first | refine yy ?_ | refine yx fun _ => ?_ | refine gc (clash_ok _ _ p.1 p.2 (hz _ hp1) (hz _ hp2)) ?_)
    refine run_cond (t := likeB p) (by show some (Value.bool _) = _; rw [bytes_beq]; rfl) (fun hc => ?_) (fun hc => ?_)
    · repeat (first | refine yy ?_ | refine yx fun _ => ?_)
      exact B.ret' (Mem.le_refl _) (fun _ h => h) ⟨rfl, hM2', List.any_eq_true.2 ⟨p, List.mem_of_getElem? hp, hc⟩, rfl⟩
    · repeat (first | refine yy ?_ | refine yx fun _ => ?_)
      exact B.fin' (L2 := (b2, .cells ⟨[.int .i64 0]⟩ 29 (0, 0)) :: L) (Mem.le_refl _) (fun _ h => h) ⟨hM2', by rw [List.take_add_one, hp, List.any_append, hno]; simpa using hc, rfl⟩
  · rintro D M2 _ hM2 ⟨hM2', hno, rfl⟩
    rw [List.length_map, List.take_length] at hno
    rw [hno] at hroll
    repeat (first | refine yy ?_ | refine yx fun _ => ?_)
    exact run_ret1 hC (by (repeat (first | with_reducible apply Upd.here | with_reducible apply Upd.there | with_reducible apply Upd.append_left))) (rs := [.cell 2 29]) rfl (rl tok rfl resN) (fun _ h => h.drop.drop.of_le (Mem.le_trans hM1 hM2)) ⟨by rw [hroll]; rfl, rfl, rfl⟩
  · rintro _ j D M2 _ hM2 ⟨rfl, hM2', hf, rfl⟩
    rw [hf] at hroll
    exact run_ret1 hC (by (repeat (first | with_reducible apply Upd.here | with_reducible apply Upd.there | with_reducible apply Upd.append_left))) (rs := [.cell 2 29]) rfl (rl tok rfl resN) (fun _ h => h.drop.drop.of_le (Mem.le_trans hM1 hM2)) ⟨by rw [hroll]; rfl, rfl, rfl⟩
end Go.Proofs.YtladcmfbkiogbaaGreatDoor
namespace Go.Proofs.YtladcmfbkiogbaaGreatDoor
open Go.Chi Go.Lib
set_option maxRecDepth 10000
theorem ucaught_ok (M : Mem) (L : HL) : TrQ Tryz.prog 31 [.iface 114 (.agg ⟨[]⟩)] M L (.bool true) := by
  refine Tr.intro 15 Tryz.func31 rfl rfl Tryz.call31 rfl ?_; intro C hC hro
  repeat (first | refine yy ?_ | refine yx fun _ => ?_ | refine vq ?_ (qt_eqNil (v := .agg ⟨[]⟩) uAny rfl))
  refine run_cond rfl (fun h => by cases h) (fun _ => ?_)
  repeat (first | refine yy ?_ | refine yx fun _ => ?_)
  refine run_cond rfl (fun h => by cases h) (fun _ => ?_)
  repeat (first | refine yy ?_ | refine yx fun _ => ?_)
  exact run_ret hC (rs := [.tmp 2]) rfl (resT rfl resN) (fun _ h => h.drop) ⟨rfl, rfl, rfl⟩
theorem ucaught0_ok (M : Mem) (L : HL) : TrQ Tryz.prog 31 [.nilIface] M L (.bool false) := by
  refine Tr.intro 15 Tryz.func31 rfl rfl Tryz.call31 rfl ?_; intro C hC hro
  repeat (first | refine yy ?_ | refine yx fun _ => ?_ | refine vq ?_ (qt_eqNil0 uAny rfl))
  refine run_cond rfl (fun _ => ?_) (fun h => by cases h)
  repeat (first | refine yy ?_ | refine yx fun _ => ?_)
  exact run_ret hC (rs := [.tmp 2]) rfl (resT rfl resN) (fun _ h => h) ⟨rfl, rfl, rfl⟩
def can (a : Aa) : Ax := ⟨a.do_, a.org, a.auditor, a.n, ⟨none, a.gives.length, 0, a.gives⟩, a.txn, a.yes, ⟨none, a.steps.length, 0, a.steps.map fun x => ⟨x.do_, x.a, x.b, x.c, x.n, x.text, ⟨none, x.list.length, 0, x.list⟩⟩⟩⟩
theorem can_aa (a : Aa) : (can a).aa = a := by
  show (⟨_, _, _, _, _, _, _, _⟩ : Aa) = _
  rw [show (can a).steps.xs.map Sr.sp = a.steps by show (a.steps.map _).map Sr.sp = _; rw [List.map_map]; exact List.map_id _]
  rfl
def chkS (a : Aa) : Int := chkA (can a)
theorem chkS_iff (a : Aa) : chkS a = 0 ↔ AcP a := by
  rw [chkS, chkA_iff rfl (by show (a.steps.map _).length = _; rw [List.length_map]; rfl) (fun x hx => by obtain ⟨y, _, rfl⟩ := List.mem_map.1 hx; rfl), can_aa]
theorem chkA_or (a : Ax) : chkA a = 0 ∨ chkA a = 2 := by
  unfold chkA
  split
  · exact .inl rfl
  · exact .inr rfl
theorem AxOk.chk {M : Mem} {a : Ax} (h : AxOk M a) : chkA a = chkS a.aa := by
  have h1 := chkA_iff h.gives.len h.steps.len (fun x hx => (h.steps.each x hx).list.len)
  rw [← chkS_iff] at h1
  rcases chkA_or a with h2 | h2 <;> rcases chkA_or (can a.aa) with h3 | h3
  · rw [h2, chkS, h3]
  · rw [h2, chkS, h3] at h1; exact absurd (h1.1 rfl) (by decide)
  · rw [h2, chkS, h3] at h1; exact absurd (h1.2 rfl) (by decide)
  · rw [h2, chkS, h3]
def parseP (names : List ByteArray) (s : ByteArray) : Option Aa := (actO names s).bind fun x => if x.2 = ⟨#[]⟩ ∧ chkS x.1 = 0 then some x.1 else none
def zA : Aa := ⟨0, 0, 0, 0, [], tz, false, []⟩
def parseA (names : List ByteArray) (s : ByteArray) : Aa × Int :=
  if rollB names = true then match parseP names s with
    | some a => (a, 0)
    | none => (zA, 7)
  else (zA, 2)
theorem zA_ok (M : Mem) : AxOk M ⟨0, 0, 0, 0, noG, tz, false, noS⟩ := ⟨MbOk.nil _, noS_ok _, fun _ h => by cases h⟩
abbrev erN_ (b : Nat) (e : Int) : Nat × Obj := (b, .cells ⟨[.int .i64 e]⟩ 29 (0, 0))
def prK (e : Aa × Int) (M : Mem) (L : HL) (v : Value) (M' : Mem) (L' : HL) : Prop := M.le M' ∧ L' = L ∧ ∃ ax : Ax, AxOk M' ax ∧ ax.aa = e.1 ∧ v = .tuple ⟨[.agg ⟨axC ax⟩, .int .i64 e.2]⟩
set_option maxHeartbeats 16000000 in
theorem tparse_ok (M : Mem) (L : HL) (hG : G38 M) (S : SStr) (hS : StOk M S) (hcap : S.len ≤ S.cap) (hnz : ∀ x ∈ S.xs, x.size < 1000000) (s : ByteArray) (hs : s.size < 1000000) : Tr Tryz.prog 18 [S.v, .string s] M L (prK (parseA S.xs s) M L) := by
  refine TrE.tr (K := fun en M' L' => ∃ v, en = .returned v ∧ prK (parseA S.xs s) M L v M' L') ?_ (fun e M' L' ⟨v, h1, h2⟩ => ⟨v, h1, h2⟩)
  refine TrE.intro 30 Tryz.func18 rfl rfl Tryz.call18 rfl ?_; intro C hC hro
  repeat (first | refine yy ?_ | refine yx fun _ => ?_ | refine qc (roll_ok _ _ S hS hcap hnz) ?_)
  rename_i ba be
  refine run_cond (t := (if rollB S.xs = true then (0 : Int) else 2) != 0) rfl (fun h => ?_) (fun h => ?_)
  · have hr : ¬ rollB S.xs = true := fun h0 => by rw [if_pos h0] at h; cases h
    repeat (first | refine yy ?_ | refine yx fun _ => ?_)
    refine run_retX hro ?_
    exact runX_ret hC (rs := [.cell 4 28, .cell 5 29]) rfl (rl tok rfl (rl tok rfl resN)) (fun _ h => h.drop.drop) ⟨_, rfl, Mem.le_refl _, rfl, _, zA_ok _, by rw [parseA, if_neg hr]; rfl, by rw [parseA, if_neg hr]; rfl⟩
  have hr : rollB S.xs = true := by
    by_cases h0 : rollB S.xs = true
    · exact h0
    · rw [if_neg h0] at h; cases h
  repeat (first | refine yy ?_ | refine yx fun _ => ?_)
  have hthrow : ∀ (M1 : Mem) (s' : ByteArray) (ax : Ax) (br : Nat), M.le M1 → parseA S.xs s = (zA, 7) → RunX Tryz.prog C 30 (.panicking panT) [⟨.fn (.func 52) ⟨[pt ba, pt be]⟩, #[]⟩] [(5, pt be), (4, pt ba)] M1 (erB br S.v s' :: erN_ be 0 :: acB ba ax :: L) := by
    intro M1 s' ax br hM1 hno
    refine runX_defer (args := [pt ba, pt be]) 5 (by simp) Tryz.func52 rfl rfl Tryz.call52 rfl rfl ?_
    intro a0 k0 q1 q2 q3
    refine run_seq ?_
    refine run_region ?_
    refine runL_recover rfl rfl rfl ?_
    refine qc (ucaught_ok _ _) ?_
    repeat (first | refine yy ?_ | refine yx fun _ => ?_)
    refine run_cond rfl (fun _ => ?_) (fun h => by cases h)
    repeat (first | refine yy ?_ | refine yx fun _ => ?_)
    refine run_endX rfl ?_
    refine runX_dret Tryz.func52 rfl q1 q2 q3 ?_
    show RunX _ _ _ .returning _ _ _ _
    exact runX_ret hC (rs := [.cell 4 28, .cell 5 29]) rfl (rl tok rfl (rl tok rfl resN)) (fun _ h => h.drop.drop.drop) ⟨_, rfl, hM1, rfl, _, zA_ok _, by rw [hno]; rfl, by rw [hno]; rfl⟩
  refine runL_defer hro rfl rfl ?_
  repeat (first | refine yy ?_ | refine yx fun _ => ?_)
  rename_i br
  have hap := act_ok M (erN_ be 0 :: acB ba ⟨0, 0, 0, 0, noG, tz, false, noS⟩ :: L) hG br S hS s hs
  refine ec hap ?_ ?_
  rotate_left
  · rintro ch M1 _ ⟨hM1, hv⟩
    split at hv
    · obtain ⟨_, _, _, hv, _⟩ := hv; cases hv
    rename_i hp
    obtain ⟨hv, s', rfl⟩ := hv
    cases hv
    exact runX_sub (hthrow M1 s' _ br hM1 (by rw [parseA, if_pos hr, parseP, hp]; rfl)) ⟨rfl, rfl, trivial⟩
  rintro v M1 _ ⟨hM1, hv⟩
  split at hv
  rotate_left
  · cases hv.1
  rename_i x hp
  obtain ⟨ax, hax, haa, hv, rfl⟩ := hv
  cases hv
  have hck := hax.chk
  rw [haa] at hck
  have hpp : parseP S.xs s = if x.2 = ⟨#[]⟩ ∧ chkS x.1 = 0 then some x.1 else none := by rw [parseP, hp]; rfl
  have hq : ((x.2.toList == (⟨#[]⟩ : ByteArray).toList) && (chkA ax == 0)) = true ↔ (x.2 = ⟨#[]⟩ ∧ chkS x.1 = 0) := by
    rw [bytes_beq, hck]
    simp
  repeat (first | refine yy ?_ | refine gc (scheck_ok _ _ ax hax) ?_)
  refine umR (b := (x.2.toList == (⟨#[]⟩ : ByteArray).toList) && (chkA ax == 0)) (fun h => ?_) (fun h => ?_)
  rotate_left
  · exact runX_sub (hthrow M1 _ ax br hM1 (by rw [parseA, if_pos hr, hpp, if_neg (fun h0 => by rw [hq.2 h0] at h; cases h)])) ⟨rfl, rfl, trivial⟩
  have hpe : parseA S.xs s = (x.1, 0) := by rw [parseA, if_pos hr, hpp, if_pos (hq.1 h)]
  repeat (first | refine yy ?_ | refine yx fun _ => ?_)
  refine run_retX hro ?_
  refine runX_sub (σ' := [(5, pt be), (4, pt ba)]) ?_ ⟨rfl, rfl, trivial⟩
  refine runX_defer (args := [pt ba, pt be]) 5 (by simp) Tryz.func52 rfl rfl Tryz.call52 rfl rfl ?_
  intro a0 k0 q1 q2 q3
  refine run_seq ?_
  refine run_region ?_
  refine runL_recover0 rfl rfl rfl ?_
  refine qc (ucaught0_ok _ _) ?_
  repeat (first | refine yy ?_ | refine yx fun _ => ?_)
  refine run_cond rfl (fun h => by cases h) (fun _ => ?_)
  repeat (first | refine yy ?_ | refine yx fun _ => ?_)
  refine run_endX rfl ?_
  refine runX_dret Tryz.func52 rfl q1 q2 q3 ?_
  show RunX _ _ _ .returning _ _ _ _
  exact runX_ret hC (rs := [.cell 4 28, .cell 5 29]) rfl (rl tok rfl (rl tok rfl resN)) (fun _ h => h.drop.drop.drop) ⟨_, rfl, hM1, rfl, ax, hax, by rw [hpe, haa], by rw [hpe]; rfl⟩
end Go.Proofs.YtladcmfbkiogbaaGreatDoor
namespace Go.Chi
section
variable {P : Program} {T : TT} {ro : Option Nat} {σ : Env} {δ : Den} {cur : Path} {M : Mem} {L : HL} {d : Option Nat} {ty : TypeId} {pos : String} {aft : Array Edge} {g : Option (Nat × Bool)} {v : Value}
theorem qt_toUnsafeO (hT : TOk P T) {x : Operand} {src dst t e b sz k : Nat} {cs : List Value} {fz : Nat × Nat} (hs : und T src = some (.pointer t)) (hd : und T dst = some .unsafePointer) (ht : sizeT T t = some sz) (hsz : Nat.beq sz 0 = false)
    (hx : ev σ δ cur x = some (.pointer (some ⟨b, k, none⟩))) (hm : (b, Obj.cells ⟨cs⟩ e fz) ∈ L) (h0 : Nat.blt k cs.length = true) : Qt P ro ⟨d, .convert src dst x, ty, pos, aft, g⟩ σ δ cur M L (.pointer (some ⟨b, k, none⟩)) :=
  qt_of_run (semAt_of (by intro c e; cases e)) fun a' w hse hcur hp => by
    have hex := ev_sound hse hcur hx
    obtain ⟨i, hi, rfl⟩ := sizeT_ok ht
    have hb : w.heap[b]? = some (.cells ⟨cs⟩ e fz) := hp.own _ hm
    have := Lib.run_to_unsafe (P := P) w ⟨b, k, none⟩ (und_ok hT hs) (und_ok hT hd) (hT.info _ _ hi) (by intro h; rw [h] at hsz; cases hsz) (show w.shape? b = some (e, cs.length) by simp [World.shape?, hb]) (by simpa using h0)
    simp only [execOp, Sem.run_bind, Sem.run_pure, Result.andThen_ok, hex, this]
theorem qt_fromUnsafeO (hT : TOk P T) {x : Operand} {src dst u e b sz k : Nat} {cs : List Value} {fz : Nat × Nat} (hs : und T src = some .unsafePointer) (hd : und T dst = some (.pointer u)) (hu : sizeT T u = some sz)
    (hx : ev σ δ cur x = some (.pointer (some ⟨b, k, none⟩))) (hm : (b, Obj.cells ⟨cs⟩ e fz) ∈ L) (hl : liesAt P P.depth e (cs.length / P.cellsOf e) k u 1 = true) : Qt P ro ⟨d, .convert src dst x, ty, pos, aft, g⟩ σ δ cur M L (.pointer (some ⟨b, k, none⟩)) :=
  qt_of_run (semAt_of (by intro c e; cases e)) fun a' w hse hcur hp => by
    have hex := ev_sound hse hcur hx
    obtain ⟨i, hi, _⟩ := sizeT_ok hu
    have hb : w.heap[b]? = some (.cells ⟨cs⟩ e fz) := hp.own _ hm
    have := Lib.run_from_unsafe (P := P) w ⟨b, k, none⟩ (und_ok hT hs) (und_ok hT hd) (hT.info _ _ hi) (show w.shape? b = some (e, cs.length) by simp [World.shape?, hb]) hl
    simp only [execOp, Sem.run_bind, Sem.run_pure, Result.andThen_ok, hex, this]
end
end Go.Chi
namespace Go.Proofs.YtladcmfbkiogbaaGreatDoor
open Go.Chi Go.Lib
set_option maxRecDepth 10000
abbrev pt1 (b : Nat) : Value := .pointer (some ⟨b, 1, none⟩)
abbrev voO (nv p v : Value) : Obj := .cells ⟨[nv, p, v]⟩ 70 (0, 0)
theorem vCheck_ok (M : Mem) (L L' : HL) (b : Nat) (nv p v : Value) (hp : p = .pointer none ∨ p = pt1 b) (hu : Upd L b (voO nv p v) (voO nv (pt1 b) v) L') :
    Tr Tryz.prog 108 [pt1 b] M L (fun _ M' L1 => M = M' ∧ L1 = L') := by
  refine Tr.intro 20 Tryz.func108 rfl rfl Tryz.call108 rfl ?_; intro C hC hro
  rcases hp with rfl | rfl
  · repeat (first | refine zz ?_ | refine zx fun _ => ?_ | refine rq (qt_ld tok rfl hu.mem rfl) ?_)
    refine run_cond rfl (fun _ => ?_) (fun h => by cases h)
    repeat (first | refine zz ?_ | refine zx fun _ => ?_ | refine rq (qt_toUnsafeO tok rfl rfl rfl rfl rfl hu.mem rfl) ?_ | refine rq (qt_callX Tryz.func135 (by kernel_rfl) (by kernel_rfl) (by kernel_rfl) (e := Extern.AbiNoEscape.same) (by kernel_rfl) rfl (fun w => rfl)) ?_ | refine rq (qt_fromUnsafeO tok rfl rfl rfl rfl hu.mem (by kernel_rfl)) ?_ | refine ws ?_ rfl rfl rfl rfl rfl hu rfl)
    exact run_end hC rfl (vs := []) trivial (fun _ h => h) ⟨rfl, rfl⟩
  · have hl : L' = L := by
      obtain ⟨A, B, rfl, rfl⟩ := hu; rfl
    subst hl
    repeat (first | refine zz ?_ | refine zx fun _ => ?_ | refine rq (qt_ld tok rfl hu.mem rfl) ?_)
    refine run_cond rfl (fun h => by cases h) (fun _ => ?_)
    repeat (first | refine zz ?_ | refine zx fun _ => ?_ | refine rq (qt_ld tok rfl hu.mem rfl) ?_ | refine rq (qt_neqPtr tok rfl rfl rfl rfl) ?_)
    refine run_cond rfl (fun h => by cases h) (fun _ => ?_)
    repeat (first | refine zz ?_ | refine zx fun _ => ?_)
    exact run_end hC rfl (vs := []) trivial (fun _ h => h) ⟨rfl, rfl⟩
theorem vWrite1_ok (M : Mem) (R N : HL) (b : Nat) (nv p v : Value) (l : List UInt8) (s : ByteArray) (hp : p = .pointer none ∨ p = pt1 b) (hO : BdS v l N) (hz : l.length + s.size < 1099511627776) :
    Tr Tryz.prog 59 [pt1 b, .string s] M ((b, voO nv p v) :: (N ++ R)) (fun _ M' L1 => M = M' ∧ ∃ v' N', L1 = N' ++ ((b, voO nv (pt1 b) v') :: R) ∧ BdS v' (l ++ s.data.toList) N') := by
  unfold BdS at hO
  obtain ⟨av, cv, rfl⟩ := osH hO
  refine Tr.intro 19 Tryz.func59 rfl rfl Tryz.call59 rfl ?_; intro C hC hro
  repeat (first | refine zz ?_ | refine zx fun _ => ?_ | (refine ro (st_callF rfl (fun _ => vCheck_ok _ _ _ b nv p _ hp (Upd.here _ _ _ _))) ?_; rintro _ _ _ ⟨rfl, rfl⟩) | (refine ro (st_appendS (n := l.length) (str := s) tok rfl rfl rfl rfl rfl rfl rfl rfl rfl rfl (List.perm_middle (l₁ := N)).symm hO (by omega) (by omega)) ?_; rintro va _ _ ⟨N', rfl, rfl, hO'⟩; obtain ⟨a2, c2, rfl⟩ := osH hO'))
  exact run_ret hC (rs := [.tmp 4, .tmp 5]) rfl (resT rfl (resT rfl resN)) (fun _ h => h) ⟨rfl, _, N', rfl, by
    unfold BdS
    rw [show bC (l ++ s.data.toList) = bC l ++ bC s.data.toList by unfold bC; rw [List.map_append], List.length_append]
    simpa using hO'⟩
def VoAt (b : Nat) (nv : Value) (l : List UInt8) (R L : HL) : Prop := ∃ p v N, (p = .pointer none ∨ p = pt1 b) ∧ L.Perm (N ++ (b, voO nv p v) :: R) ∧ BdS v l N
theorem VoAt.cons {b : Nat} {nv : Value} {l : List UInt8} {R L : HL} (q : Nat × Obj) (h : VoAt b nv l R L) : VoAt b nv l (q :: R) (q :: L) := by
  obtain ⟨p, v, N, hp, hL, hO⟩ := h
  exact ⟨p, v, N, hp, (hL.cons q).trans (List.perm_middle.symm.trans ((List.Perm.refl N).append (List.Perm.swap _ _ _))), hO⟩
theorem VoAt.drop {b : Nat} {nv : Value} {l : List UInt8} {R L : HL} {q : Nat × Obj} (h : VoAt b nv l (q :: R) L) : ∃ L', (∀ M w, Hp M L w → Hp M L' w) ∧ VoAt b nv l R L' := by
  obtain ⟨p, v, N, hp, hL, hO⟩ := h
  refine ⟨N ++ (b, voO nv p v) :: R, fun M w hw => ?_, p, v, N, hp, List.Perm.refl _, hO⟩
  exact (hw.perm (hL.trans (((List.Perm.refl N).append (List.Perm.swap _ _ _)).trans List.perm_middle))).drop
theorem VoAt.memR {b : Nat} {nv : Value} {l : List UInt8} {R L : HL} {x : Nat × Obj} (h : VoAt b nv l R L) (hx : x ∈ R) : x ∈ L := by
  obtain ⟨p, v, N, hp, hL, hO⟩ := h
  exact hL.mem_iff.2 (List.mem_append_right _ (List.mem_cons_of_mem _ hx))
theorem VoAt.mem {b : Nat} {nv : Value} {l : List UInt8} {R L : HL} (h : VoAt b nv l R L) : ∃ p v, (b, voO nv p v) ∈ L := by
  obtain ⟨p, v, N, hp, hL, hO⟩ := h
  exact ⟨p, v, hL.mem_iff.2 (List.mem_append_right _ List.mem_cons_self)⟩
theorem VoAt.upd {b : Nat} {nv : Value} {l : List UInt8} {A R L : HL} {k : Nat} {o : Obj} (o' : Obj) (h : VoAt b nv l (A ++ (k, o) :: R) L) : ∃ L', Upd L k o o' L' ∧ VoAt b nv l (A ++ (k, o') :: R) L' := by
  obtain ⟨p, v, N, hp, hL, hO⟩ := h
  obtain ⟨X, Y, rfl⟩ := List.append_of_mem (hL.mem_iff.2 (List.mem_append_right _ (List.mem_cons_of_mem _ (List.mem_append_right _ List.mem_cons_self))))
  refine ⟨X ++ (k, o') :: Y, ⟨X, Y, rfl, rfl⟩, p, v, N, hp, ?_, hO⟩
  have h1 : (X ++ Y).Perm (N ++ (b, voO nv p v) :: (A ++ R)) := by
    refine List.Perm.cons_inv (a := (k, o)) (List.perm_middle.symm.trans (hL.trans ?_))
    refine (List.Perm.append_left N ((List.perm_middle (l₁ := A)).cons _)).trans ?_
    exact (List.Perm.append_left N (List.Perm.swap _ _ _)).trans List.perm_middle
  refine List.perm_middle.trans ((h1.cons (k, o')).trans ?_)
  refine List.perm_middle.symm.trans ?_
  exact (List.Perm.append_left N (List.Perm.swap _ _ _)).trans (List.Perm.append_left N ((List.perm_middle (l₁ := A)).symm.cons _))
theorem vWrite_ok (M : Mem) (L R : HL) (b : Nat) (nv : Value) (l : List UInt8) (s : ByteArray) (h : VoAt b nv l R L) (hz : l.length + s.size < 1099511627776) :
    Tr Tryz.prog 59 [pt1 b, .string s] M L (fun _ M' L' => M = M' ∧ VoAt b nv (l ++ s.data.toList) R L') := by
  obtain ⟨p, v, N, hp, hL, hO⟩ := h
  refine Tr.perm (vWrite1_ok M R N b nv p v l s hp hO hz) (hL.trans List.perm_middle) ?_
  rintro _ _ _ ⟨rfl, v', N', rfl, hO'⟩
  exact ⟨_, List.Perm.refl _, rfl, pt1 b, v', N', .inr rfl, List.Perm.refl _, hO'⟩
theorem take_cat {xs : List ByteArray} {j : Nat} {x : ByteArray} (h : xs[j]? = some x) : (cat (xs.take (j + 1))).data.toList = (cat (xs.take j)).data.toList ++ x.data.toList := by
  rw [take_snoc h, cat_app]
  simp [cat]
set_option maxHeartbeats 4000000 in
theorem say_ok (M : Mem) (L R : HL) (bv ba : Nat) (nv : Value) (l : List UInt8) (xs : List ByteArray) (cs : List Value) (n : Nat) (hcs : cs = xs.map Value.string) (hn : xs.length = n) (h6 : n < 1000000) (h : VoAt bv nv l R L) (hz : l.length + (cat xs).size < 1099511627776) :
    Tr Tryz.prog 34 [pt bv, .slice (some ⟨ba, 0, none⟩) n n] M ((ba, .cells ⟨cs⟩ 9 (0, 0)) :: L) (fun _ M' L' => M.le M' ∧ VoAt bv nv (l ++ (cat xs).data.toList) R L') := by
  subst hcs hn
  refine Tr.intro 18 Tryz.func34 rfl rfl Tryz.call34 rfl ?_; intro C hC hro
  refine run_frzL [_] fun M1 hM1 hb => ?_
  have hsl := SlM.ofBlk (size := 1) (ls := xs.map stC) (hb _ List.mem_cons_self) (strs_flat xs) (fun l hl => by obtain ⟨x, _, rfl⟩ := List.mem_map.1 hl; rfl)
  rw [List.length_map] at hsl
  repeat (first | refine yy ?_ | refine yx fun _ => ?_)
  refine run_loopN (fun j σ1 M2 L2 => j ≤ xs.length ∧ M1 = M2 ∧ VoAt bv nv (l ++ (cat (xs.take j)).data.toList) R L2 ∧ σ1 = [(8, iv j), (7, iv xs.length), (6, .slice (some ⟨ba, 0, none⟩) xs.length xs.length), (0, pt bv)]) xs.length [(8, iv 0), (7, iv xs.length), (6, .slice (some ⟨ba, 0, none⟩) xs.length xs.length), (0, pt bv)] ?_ ⟨Nat.zero_le _, rfl, by simpa [cat] using h, rfl⟩ (fun j _ _ _ h => h.1) ?_
  · exact ⟨rfl, rfl, rfl, rfl, trivial⟩
  rintro j _ _ L2 ⟨hj, rfl, hB, rfl⟩ hnext
  repeat (first | refine yy ?_ | refine yx fun _ => ?_)
  refine run_cond (t := decide ((j : Int) < (xs.length : Int))) rfl (fun h2 => ?_) (fun h2 => ?_)
  · have hlt : j < xs.length := by have := of_decide_eq_true h2; omega
    obtain ⟨b, off, x, hba, hx, hc⟩ := SStr.at_ hsl hlt
    cases hba
    have hcj := take_cat hx
    have hle := cat_take_le xs (j + 1)
    have hl2 := congrArg List.length hcj
    rw [List.length_append, ba_len, ba_len, ba_len] at hl2
    repeat (first | refine yy ?_ | refine yx fun _ => ?_)
    refine oc (vWrite_ok _ _ R bv nv _ x hB (by rw [List.length_append, ba_len]; omega)) ?_
    rintro _ _ L3 ⟨rfl, hB3⟩
    repeat (first | refine yy ?_ | refine yx fun _ => ?_)
    exact run_sub' (hnext _ _ _ ⟨hlt, rfl, by rw [hcj, ← List.append_assoc]; exact hB3, rfl⟩) ⟨lk_succ rfl (by omega), rfl, rfl, rfl, trivial⟩
  · have hge : j = xs.length := by have := of_decide_eq_false h2; omega
    subst hge
    rw [List.take_length] at hB
    repeat (first | refine yy ?_ | refine yx fun _ => ?_)
    exact run_end hC rfl (vs := []) trivial (fun _ h => h) ⟨hM1, hB⟩
end Go.Proofs.YtladcmfbkiogbaaGreatDoor
