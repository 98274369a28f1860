import Derived.Test.YtbpgiodfccijmaaBTB
import Derived.Test.YtbpgiodfccijmaaBTF
import Derived.KernelRfl
import Derived.ChangeMaps5
namespace Go.Proofs.Ytbpgiodfccijmaa
open Go.Chi

/-! ### the chapter's examples -/
def al1 : Ax := ⟨3, 2, 0, 0, ⟨none, 0, 0, []⟩, ⟨0, 0, 0⟩, false, ⟨none, 0, 0, []⟩⟩
def al2 : Ax := ⟨4, 0, 0, 300, ⟨none, 0, 0, []⟩, ⟨0, 0, 0⟩, false, ⟨none, 0, 0, []⟩⟩
def al3 : Ax := ⟨7, 1, 0, 0, ⟨none, 0, 0, []⟩, ⟨0, 0, 0⟩, false, ⟨none, 0, 0, []⟩⟩
def al4 : Ax := ⟨3, 0, 0, 1, ⟨none, 0, 0, []⟩, ⟨0, 0, 0⟩, false, ⟨none, 0, 0, []⟩⟩
theorem al_ok (M : Mem) (k o n : Int) : AxW M ⟨k, o, 0, n, ⟨none, 0, 0, []⟩, ⟨0, 0, 0⟩, false, ⟨none, 0, 0, []⟩⟩ := ⟨⟨SlM.nil _ _ _, by show 0 < 1000000; decide⟩, ⟨SlZ.nil _ _ _, by show 0 < 1000000; decide, (fun x hx => by cases hx)⟩, (fun m hm => by cases hm)⟩
theorem numB_small {v : Nat} (h : v < 248) : numB v = bytesI [IntKind.u8.wrap (v : Int)] := by rw [numB, if_pos h]
theorem dig300 : digN 300 = ⟨#[1, 44]⟩ := by
  rw [digN, if_neg (by decide), show 300 / 256 = 1 from rfl, digN, if_neg (by decide), show 1 / 256 = 0 from rfl, digN_zero]
  rfl
def alS : ByteArray := ⟨#[3, 2, 4, 249, 1, 44, 7, 1, 0]⟩
theorem al_B : encB [al1.aa, al2.aa, al3.aa] = alS := by
  have e : encB [al1.aa, al2.aa, al3.aa] = (bytesI [3] ++ numB 2) ++ ((bytesI [4] ++ numB 300) ++ ((bytesI [7] ++ (numB 1 ++ numB 0)) ++ bz)) := rfl
  rw [e, numB_small (v := 2) (by decide), numB_small (v := 1) (by decide), numB_small (v := 0) (by decide), numB, if_neg (by decide), dig300]
  rfl
theorem al_chk : chkA al1 = 0 ∧ chkA al2 = 0 ∧ chkA al3 = 0 ∧ chkA al4 = 2 := ⟨by kernel_rfl, by kernel_rfl, by kernel_rfl, by kernel_rfl⟩
theorem al_iff : IffA [al1, al2, al3] := by
  intro x hx
  simp only [List.mem_cons, List.not_mem_nil, or_false] at hx
  rcases hx with rfl | rfl | rfl
  · exact chkA_iff rfl rfl (fun y hy => by cases hy)
  · exact chkA_iff rfl rfl (fun y hy => by cases hy)
  · exact chkA_iff rfl rfl (fun y hy => by cases hy)
theorem al_enc : encA [al1, al2, al3] = (alS, 0) := by
  rcases encA_law al_iff with ⟨⟨a, ha, hn⟩, _⟩ | ⟨_, ⟨_, h2⟩ | ⟨h1, _⟩⟩
  · exfalso
    obtain ⟨x, hx, rfl⟩ := List.mem_map.1 ha
    refine hn ((al_iff x hx).1 ?_)
    simp only [List.mem_cons, List.not_mem_nil, or_false] at hx
    rcases hx with rfl | rfl | rfl
    · exact al_chk.1
    · exact al_chk.2.1
    · exact al_chk.2.2.1
  · rw [h2]
    exact congrArg (fun z => (z, (0 : Int))) al_B
  · have e : encB ([al1, al2, al3].map Ax.aa) = alS := al_B
    rw [e] at h1
    exact absurd h1 (by decide)
theorem al_fr : Fr alS ([al1, al2, al3].map Ax.aa) bz := by
  have h : ∀ a ∈ [al1, al2, al3].map Ax.aa, AcP a ∧ ShortA a := by
    intro a ha
    obtain ⟨x, hx, rfl⟩ := List.mem_map.1 ha
    refine ⟨(al_iff x hx).1 ?_, ?_⟩
    · simp only [List.mem_cons, List.not_mem_nil, or_false] at hx
      rcases hx with rfl | rfl | rfl
      · exact al_chk.1
      · exact al_chk.2.1
      · exact al_chk.2.2.1
    · simp only [List.mem_cons, List.not_mem_nil, or_false] at hx
      rcases hx with rfl | rfl | rfl <;> exact fun m hm => by cases hm
  have := fr_of h one_bz
  rwa [app_bz', show encB ([al1, al2, al3].map Ax.aa) = alS from al_B] at this
set_option maxRecDepth 10000 in
set_option maxHeartbeats 8000000 in
theorem salive_ok (M : Mem) (L : HL) : Tr Try.prog 8 [] M L (fun v M' L' => v = .bool true ∧ M.le M' ∧ L' = L) := by
  have hsz : alS.size = 9 := rfl
  refine Tr.intro 38 Try.func8 rfl rfl Try.call8 rfl ?_
  intro C hC hro
  repeat (first | with_reducible (first | refine cS ?_ | refine cR ?_ | refine cN ?_ | refine cK ?_ | refine cB ?_ | refine cI ?_) | refine cE rfl ?_ | refine rq (qt_pev tok rfl) ?_ | refine rg rfl rfl (qt_pev tok rfl) ?_ | refine rq (ql tok rfl) ?_ | refine rg rfl rfl (ql tok rfl) ?_ | (refine runL_op0 (sst tok rfl rfl rfl rfl rfl) ?_; rintro _ _ _ ⟨rfl, rfl, rfl⟩) | ((first | refine ro (st_box rfl) ?_ | refine ro (st_alloc tok rfl) ?_ | refine ro (st_buildSlice tok rfl rfl rfl rfl rfl rfl rfl) ?_); rintro _ _ _ ⟨_, rfl, rfl, rfl⟩))
  rename_i b3
  refine runL_frz 0 rfl ?_
  intro M1 hM1 hb
  have hsa : SaW M1 ⟨some ⟨b3, 0, none⟩, 3, 3, [al1, al2, al3]⟩ := ⟨SlM.ofBlk (ls := [al1, al2, al3].map axC) hb rfl (ax_all _), by show (3 : Nat) < 1000000; decide, fun x hx => by
    simp only [List.mem_cons, List.not_mem_nil, or_false] at hx
    rcases hx with rfl | rfl | rfl
    · exact al_ok _ 3 2 0
    · exact al_ok _ 4 0 300
    · exact al_ok _ 7 1 0⟩
  have henc := fun L => sencode_ok M1 L ⟨some ⟨b3, 0, none⟩, 3, 3, [al1, al2, al3]⟩ hsa
  simp only [al_enc] at henc
  refine runL_op (st_callF rfl (fun _ => henc _)) rfl rfl rfl ?_
  rintro _ M2 _ ⟨rfl, hM2, rfl⟩
  repeat (first | with_reducible (first | refine cS ?_ | refine cR ?_ | refine cN ?_ | refine cK ?_ | refine cB ?_ | refine cI ?_) | refine cE rfl ?_ | refine rq (qt_pev tok rfl) ?_ | refine rg rfl rfl (qt_pev tok rfl) ?_ | refine rq (ql tok rfl) ?_ | refine rg rfl rfl (ql tok rfl) ?_ | (refine runL_op0 (sst tok rfl rfl rfl rfl rfl) ?_; rintro _ _ _ ⟨rfl, rfl, rfl⟩) | ((first | refine ro (st_box rfl) ?_ | refine ro (st_alloc tok rfl) ?_ | refine ro (st_buildSlice tok rfl rfl rfl rfl rfl rfl rfl) ?_); rintro _ _ _ ⟨_, rfl, rfl, rfl⟩) | refine runL_op (st_callF rfl (fun _ => sdecode_ok M2 _ alS (by rw [hsz]; decide))) rfl rfl rfl ?_; rintro _ M3 _ ⟨hM3, rfl, sx, e, rfl, hsx, hd⟩)
  have hde : e = 0 ∧ sx.len = 3 := by
    rcases hd with ⟨_, _, h⟩ | ⟨_, l, y, hf, h⟩
    · rw [hsz] at h; omega
    · obtain ⟨h1, rfl⟩ := hf.uniq al_fr
      rcases h with ⟨_, _, h⟩ | ⟨h2, _, h3⟩
      · exact absurd rfl h
      · refine ⟨h2, ?_⟩
        rw [← hsx.ok.len]
        have := congrArg List.length (h3.trans h1)
        simpa using this
  obtain ⟨rfl, hlen⟩ := hde
  repeat (first | with_reducible (first | refine cS ?_ | refine cR ?_ | refine cN ?_ | refine cK ?_ | refine cB ?_ | refine cI ?_) | refine cE rfl ?_ | refine rq (qt_pev tok rfl) ?_ | refine rg rfl rfl (qt_pev tok rfl) ?_ | refine rq (ql tok rfl) ?_ | refine rg rfl rfl (ql tok rfl) ?_ | (refine runL_op0 (sst tok rfl rfl rfl rfl rfl) ?_; rintro _ _ _ ⟨rfl, rfl, rfl⟩) | ((first | refine ro (st_box rfl) ?_ | refine ro (st_alloc tok rfl) ?_ | refine ro (st_buildSlice tok rfl rfl rfl rfl rfl rfl rfl) ?_); rintro _ _ _ ⟨_, rfl, rfl, rfl⟩) | refine runL_g rfl rfl (qt_callF rfl (fun _ => scheck_ok _ _ al4 (al_ok _ 3 0 1).ok)) rfl rfl rfl rfl rfl ?_)
  refine run_ret hC (rs := [.tmp 0]) rfl (resT rfl resN) (fun _ h => h) ⟨?_, Mem.le_trans hM1 (Mem.le_trans hM2 hM3), rfl⟩
  show Value.bool (((((alS.toList == (⟨#[3, 2, 4, 249, 1, 44, 7, 1, 0]⟩ : ByteArray).toList) && ((0 : Int) == 0)) && ((sx.len : Int) == 3)) && ((0 : Int) == 0)) && (chkA al4 == 2)) = _
  rw [hlen, al_chk.2.2.2, bytes_beq]
  rfl
end Go.Proofs.Ytbpgiodfccijmaa
namespace Go.Proofs.Ytbpgiodfccijmaa
open Go.Chi

/-! ### the document's taker: a step -/
def stV (d a b c n : Int) (t : ByteArray) (v : Value) : List Value := [.int .u8 d, .int .i64 a, .int .i64 b, .int .i64 c, .int .i64 n, .string t, v]
abbrev stB (pb : Nat) (d a b c n : Int) (t : ByteArray) (v : Value) : Nat × Obj := (pb, .cells ⟨stV d a b c n t v⟩ 51 (0, 0))
theorem inOne (r : Int) : ∀ u ∈ inC r, u.oneCell' = true := by intro u hu; simp [inC] at hu; subst hu; rfl
theorem inFlat (l : List Int) (x : Int) : (l.map inC).flatten ++ inC x = ((l ++ [x]).map inC).flatten := by simp
theorem u8_in {d : Int} (h : 0 ≤ d ∧ d ≤ 255) : IntKind.u8.wrap d = d := by
  rw [show d = ((d.toNat : Nat) : Int) by omega, u8_mod, Nat.mod_eq_of_lt (by omega)]
theorem tk3 (x y z : Nat × Obj) (L : HL) : (x :: y :: z :: L).Perm (z :: x :: y :: L) := permMid [x, y] [z] L
theorem tnum_eq {c c' : Tk} {v : Int} (h : kN c = (v, c')) (M : Mem) (L : HL) (bc : Nat) :
    Tr Try.prog 43 [.pointer (some ⟨bc, 0, none⟩)] M (tkB bc c :: L) (fun w M' L' => w = .int .i64 v ∧ M = M' ∧ L' = tkB bc c' :: L) := by
  have := tnum_ok M L bc c
  rwa [h] at this
theorem ttext_eq {c c' : Tk} {v : ByteArray} {most : Nat} (h : kT most c = (v, c')) (M : Mem) (L : HL) (bc : Nat) (hm : most < 4611686018427387904) (hs : c.1.size < 4611686018427387904) :
    Tr Try.prog 44 [.pointer (some ⟨bc, 0, none⟩), .int .i64 (most : Int)] M (tkB bc c :: L) (fun w M' L' => w = .string v ∧ M = M' ∧ L' = tkB bc c' :: L) := by
  have := ttext_ok M L bc c most hm hs
  rwa [h] at this
theorem kN_sz {c c' : Tk} {v : Int} (h : kN c = (v, c')) : c'.1.size ≤ c.1.size := by have := kN_size c; rwa [h] at this
theorem kT_sz {c c' : Tk} {v : ByteArray} {most : Nat} (h : kT most c = (v, c')) : c'.1.size ≤ c.1.size := by have := kT_size most c; rwa [h] at this
theorem kN_ex (c : Tk) : ∃ (v : Nat) (c' : Tk), kN c = ((v : Int), c') ∧ v ≤ 2147483647 ∧ c'.1.size ≤ c.1.size ∧ (c'.2 = true → c.2 = true ∧ c'.1.size + 1 ≤ c.1.size) := by
  obtain ⟨v, h1, h2⟩ := kN_nat c
  refine ⟨v, (kN c).2, by rw [← h1], h2, kN_size c, fun h => kN_eat h⟩
theorem kT_ex (most : Nat) (c : Tk) : ∃ (v : ByteArray) (c' : Tk), kT most c = (v, c') ∧ v.size ≤ most ∧ c'.1.size ≤ c.1.size ∧ (c'.2 = true → c.2 = true) := ⟨_, _, rfl, kT_short most c, kT_size most c, fun h => kT_eat h⟩
set_option maxRecDepth 10000 in
set_option maxHeartbeats 32000000 in
theorem tstep_ok (M : Mem) (L : HL) (bc : Nat) (c : Tk) (hs : c.1.size < 999990) :
    Tr Try.prog 45 [.pointer (some ⟨bc, 0, none⟩)] M (tkB bc c :: L) (fun v M' L' => ∃ x : Sr, v = .agg ⟨srC x⟩ ∧ SrOk M' x ∧ x.sp = (kSp c).1 ∧ M.le M' ∧ L' = tkB bc (kSp c).2 :: L) := by
  obtain ⟨d, c1, h1, d1, q1, _⟩ := kN_ex c
  have hK : kSp c = (if 255 < (d : Int) then fun c => (sp0, (c.1, false)) else kSpT d) c1 := by
    show (if 255 < (kN c).1 then fun c => (sp0, (c.1, false)) else kSpT (kN c).1) (kN c).2 = _
    rw [h1]
  refine Tr.intro 55 Try.func45 rfl rfl Try.call45 rfl ?_
  intro C hC hro
  rw [hK] at hC
  clear hK
  repeat (first | with_reducible (first | refine cS ?_ | refine cR ?_ | refine cN ?_ | refine cK ?_ | refine cB ?_ | refine cI ?_) | refine cE rfl ?_ | refine rq (qt_pev tok rfl) ?_ | refine rg rfl rfl (qt_pev tok rfl) ?_ | refine rq (ql tok rfl) ?_ | refine rg rfl rfl (ql tok rfl) ?_ | (refine runL_op0 (sst tok rfl rfl rfl rfl rfl) ?_; rintro _ _ _ ⟨rfl, rfl, rfl⟩) | ((first | refine ro (st_box rfl) ?_ | refine ro (st_alloc tok rfl) ?_ | refine ro (st_buildSlice tok rfl rfl rfl rfl rfl rfl rfl) ?_); rintro _ _ _ ⟨_, rfl, rfl, rfl⟩) | refine runL_op (st_callF rfl (fun _ => trPerm (tk3 _ _ _ _) (tnum_eq h1 _ _ bc))) rfl rfl rfl ?_; rintro _ _ _ ⟨rfl, rfl, rfl⟩)
  rename_i b2 b3
  refine run_cond rfl (fun h => ?_) (fun h => ?_)
  · have hd : 255 < (d : Int) := of_decide_eq_true h
    rw [if_pos hd] at hC
    repeat (first | with_reducible (first | refine cS ?_ | refine cR ?_ | refine cN ?_ | refine cK ?_ | refine cB ?_ | refine cI ?_) | refine cE rfl ?_ | refine rq (qt_pev tok rfl) ?_ | refine rg rfl rfl (qt_pev tok rfl) ?_ | refine rq (ql tok rfl) ?_ | refine rg rfl rfl (ql tok rfl) ?_ | (refine runL_op0 (sst tok rfl rfl rfl rfl rfl) ?_; rintro _ _ _ ⟨rfl, rfl, rfl⟩) | ((first | refine ro (st_box rfl) ?_ | refine ro (st_alloc tok rfl) ?_ | refine ro (st_buildSlice tok rfl rfl rfl rfl rfl rfl rfl) ?_); rintro _ _ _ ⟨_, rfl, rfl, rfl⟩))
    exact run_ret hC (rs := [.cell 2 51]) rfl (rl tok rfl resN) (fun _ h => (h.perm (tk3 _ _ _ _).symm).drop.drop) ⟨⟨0, 0, 0, 0, 0, ⟨#[]⟩, ⟨none, 0, 0, []⟩⟩, rfl, ⟨⟨SlM.nil _ _ _, by show (0 : Nat) < _; decide⟩, by show (0 : Nat) < _; decide⟩, rfl, Mem.le_refl _, rfl⟩
  have hd : ¬ 255 < (d : Int) := of_decide_eq_false h
  rw [if_neg hd] at hC
  clear h
  obtain ⟨va, c2, h2, d2, q2, _⟩ := kN_ex c1
  obtain ⟨vb, c3, h3, d3, q3, _⟩ := kN_ex c2
  obtain ⟨vc, c4, h4, d4, q4, _⟩ := kN_ex c3
  obtain ⟨vn, c5, h5, d5, q5, _⟩ := kN_ex c4
  obtain ⟨vt, c6, h6, d6, q6, _⟩ := kT_ex 1024 c5
  obtain ⟨cnt, c7, h7, d7, q7, _⟩ := kN_ex c6
  have hKT : kSpT d c1 = (⟨d, va, vb, vc, vn, vt, (kNs cnt c7).1⟩, (kNs cnt c7).2) := by
    simp only [kSpT, bK, puK, h2, h3, h4, h5, h6, h7, Int.toNat_natCast]
  rw [hKT] at hC
  clear hKT
  have e2 : IntKind.u8.wrap (d : Int) = d := u8_in (by omega)
  refine run_skip ?_
  repeat (first | with_reducible (first | refine cS ?_ | refine cR ?_ | refine cN ?_ | refine cK ?_ | refine cB ?_ | refine cI ?_) | refine cE rfl ?_ | refine rq (qt_pev tok rfl) ?_ | refine rg rfl rfl (qt_pev tok rfl) ?_ | refine rq (ql tok rfl) ?_ | refine rg rfl rfl (ql tok rfl) ?_ | (refine runL_op0 (sst tok rfl rfl rfl rfl rfl) ?_; rintro _ _ _ ⟨rfl, rfl, rfl⟩) | ((first | refine ro (st_box rfl) ?_ | refine ro (st_alloc tok rfl) ?_ | refine ro (st_buildSlice tok rfl rfl rfl rfl rfl rfl rfl) ?_); rintro _ _ _ ⟨_, rfl, rfl, rfl⟩) | refine runL_op (st_callF rfl (fun _ => tnum_eq h2 _ _ bc)) rfl rfl rfl ?_; rintro _ _ _ ⟨rfl, rfl, rfl⟩ | refine runL_op (st_callF rfl (fun _ => tnum_eq h3 _ _ bc)) rfl rfl rfl ?_; rintro _ _ _ ⟨rfl, rfl, rfl⟩ | refine runL_op (st_callF rfl (fun _ => tnum_eq h4 _ _ bc)) rfl rfl rfl ?_; rintro _ _ _ ⟨rfl, rfl, rfl⟩ | refine runL_op (st_callF rfl (fun _ => tnum_eq h5 _ _ bc)) rfl rfl rfl ?_; rintro _ _ _ ⟨rfl, rfl, rfl⟩ | refine runL_op (st_callF rfl (fun _ => ttext_eq h6 _ _ bc (by decide) (by omega))) rfl rfl rfl ?_; rintro _ _ _ ⟨rfl, rfl, rfl⟩ | refine runL_op (st_callF rfl (fun _ => tnum_eq h7 _ _ bc)) rfl rfl rfl ?_; rintro _ _ _ ⟨rfl, rfl, rfl⟩)
  rw [e2]
  refine run_loopN (fun j σ1 M1 L1 => j ≤ c7.1.size + 1 ∧ M = M1 ∧ j ≤ cnt ∧ ∃ (xs : List Int) (cj : Tk) (v : Value) (N : HL), xs.length = j ∧ kNs cnt c7 = (xs ++ (kNs (cnt - j) cj).1, (kNs (cnt - j) cj).2) ∧ cj.1.size + j ≤ c7.1.size + (if cj.2 = true then 0 else 1) ∧ OS 3 1 v j (xs.map inC).flatten N ∧ L1 = tkB bc cj :: stB b3 d va vb vc vn vt v :: (N ++ (b2, .cells ⟨stV 0 0 0 0 0 ⟨#[]⟩ (.slice none 0 0)⟩ 51 (0, 0)) :: L) ∧ σ1 = [(6, .int .i64 (j : Int)), (5, .int .i64 (cnt : Int)), (3, .pointer (some ⟨b3, 0, none⟩)), (2, .pointer (some ⟨b2, 0, none⟩)), (0, .pointer (some ⟨bc, 0, none⟩))]) (c7.1.size + 1) [(6, .int .i64 ((0 : Nat) : Int)), (5, .int .i64 (cnt : Int)), (3, .pointer (some ⟨b3, 0, none⟩)), (2, .pointer (some ⟨b2, 0, none⟩)), (0, .pointer (some ⟨bc, 0, none⟩))] ?_ ⟨Nat.zero_le _, rfl, Nat.zero_le _, [], c7, .slice none 0 0, [], rfl, rfl, by omega, OS.nil _ _, rfl, rfl⟩ (fun j _ _ _ h => h.1) ?_
  · exact ⟨rfl, rfl, rfl, rfl, rfl, trivial⟩
  rintro j _ _ _ ⟨hj1, rfl, hj, xs, cj, v, N, hxl, hkj, hzj, hO, rfl, rfl⟩ hnext
  repeat (first | with_reducible (first | refine cS ?_ | refine cR ?_ | refine cN ?_ | refine cK ?_ | refine cB ?_ | refine cI ?_) | refine cE rfl ?_ | refine rq (qt_pev tok rfl) ?_ | refine rg rfl rfl (qt_pev tok rfl) ?_ | refine rq (ql tok rfl) ?_ | refine rg rfl rfl (ql tok rfl) ?_ | (refine runL_op0 (sst tok rfl rfl rfl rfl rfl) ?_; rintro _ _ _ ⟨rfl, rfl, rfl⟩) | ((first | refine ro (st_box rfl) ?_ | refine ro (st_alloc tok rfl) ?_ | refine ro (st_buildSlice tok rfl rfl rfl rfl rfl rfl rfl) ?_); rintro _ _ _ ⟨_, rfl, rfl, rfl⟩))
  refine run_cond rfl (fun h => ?_) (fun h => ?_)
  rotate_left
  · have hz : kNs (cnt - j) cj = ([], cj) := by
      have h' : (decide ((j : Int) < (cnt : Int)) && cj.2) = false := h
      by_cases hjc : j < cnt
      · have : cj.2 = false := by simpa [hjc] using h'
        exact kNs_off (by simp [this]) _
      · rw [show cnt - j = 0 by omega]; rfl
    rw [hz] at hkj
    simp only [List.append_nil] at hkj
    rw [hkj] at hC
    refine run_exit rfl ?_
    refine run_memE (fun M' L' => M.le M' ∧ ∃ sl : SIn, InOk M' sl ∧ sl.xs = xs ∧ L' = tkB bc cj :: stB b3 d va vb vc vn vt sl.v :: (b2, .cells ⟨stV 0 0 0 0 0 ⟨#[]⟩ (.slice none 0 0)⟩ 51 (0, 0)) :: L) (fun w hw => ?_) ?_
    · obtain ⟨M', a', c', h1, h2, h3, h4⟩ := (hw.perm (pm2 _ _ N _)).freezeOS hO (by simpa using hxl) (in_all _)
      exact ⟨M', _, h2, h1, ⟨a', j, c', xs⟩, ⟨h4, by show j < _; omega⟩, rfl, by rw [h3]; rfl⟩
    rintro M' _ ⟨hM', sl, hsl, rfl, rfl⟩
    repeat (first | with_reducible (first | refine cS ?_ | refine cR ?_ | refine cN ?_ | refine cK ?_ | refine cB ?_ | refine cI ?_) | refine cE rfl ?_ | refine rq (qt_pev tok rfl) ?_ | refine rg rfl rfl (qt_pev tok rfl) ?_ | refine rq (ql tok rfl) ?_ | refine rg rfl rfl (ql tok rfl) ?_ | (refine runL_op0 (sst tok rfl rfl rfl rfl rfl) ?_; rintro _ _ _ ⟨rfl, rfl, rfl⟩) | ((first | refine ro (st_box rfl) ?_ | refine ro (st_alloc tok rfl) ?_ | refine ro (st_buildSlice tok rfl rfl rfl rfl rfl rfl rfl) ?_); rintro _ _ _ ⟨_, rfl, rfl, rfl⟩))
    exact run_ret hC (rs := [.cell 2 51]) rfl (rl tok rfl resN) (fun _ h => (h.perm (tk3 _ _ _ _).symm).drop.drop) ⟨⟨d, va, vb, vc, vn, vt, sl⟩, rfl, ⟨hsl, by show vt.size < _; omega⟩, rfl, hM', rfl⟩
  have h' : (decide ((j : Int) < (cnt : Int)) && cj.2) = true := h
  obtain ⟨hlt, hcj⟩ : j < cnt ∧ cj.2 = true := by simpa using h'
  rw [show cnt - j = (cnt - (j + 1)) + 1 by omega, kNs_on hcj] at hkj
  obtain ⟨vx, cx, h8, d8, q8, e8⟩ := kN_ex cj
  rw [h8] at hkj
  rw [if_pos hcj] at hzj
  obtain ⟨aa0, ca0, rfl⟩ := osSl hO
  repeat (first | with_reducible (first | refine cS ?_ | refine cR ?_ | refine cN ?_ | refine cK ?_ | refine cB ?_ | refine cI ?_) | refine cE rfl ?_ | refine rq (qt_pev tok rfl) ?_ | refine rg rfl rfl (qt_pev tok rfl) ?_ | refine rq (ql tok rfl) ?_ | refine rg rfl rfl (ql tok rfl) ?_ | (refine runL_op0 (sst tok rfl rfl rfl rfl rfl) ?_; rintro _ _ _ ⟨rfl, rfl, rfl⟩) | ((first | refine ro (st_box rfl) ?_ | refine ro (st_alloc tok rfl) ?_ | refine ro (st_buildSlice tok rfl rfl rfl rfl rfl rfl rfl) ?_); rintro _ _ _ ⟨_, rfl, rfl, rfl⟩))
  repeat (first | with_reducible (first | refine cS ?_ | refine cR ?_ | refine cN ?_ | refine cK ?_ | refine cB ?_ | refine cI ?_) | refine cE rfl ?_ | refine rq (qt_pev tok rfl) ?_ | refine rg rfl rfl (qt_pev tok rfl) ?_ | refine rq (ql tok rfl) ?_ | refine rg rfl rfl (ql tok rfl) ?_ | (refine runL_op0 (sst tok rfl rfl rfl rfl rfl) ?_; rintro _ _ _ ⟨rfl, rfl, rfl⟩) | ((first | refine ro (st_box rfl) ?_ | refine ro (st_alloc tok rfl) ?_ | refine ro (st_buildSlice tok rfl rfl rfl rfl rfl rfl rfl) ?_); rintro _ _ _ ⟨_, rfl, rfl, rfl⟩) | refine prn_start mixed ?_ | refine prn_end (by decide +kernel) ?_ | refine pq rfl (qt_pev tok rfl) ?_ | refine pg rfl rfl rfl (qt_pev tok rfl) ?_ | refine pq rfl (ql tok rfl) ?_ | refine pg rfl rfl rfl (ql tok rfl) ?_ | (refine prn_e0 rfl (sst tok rfl rfl rfl rfl rfl) (by decide +kernel) ?_; rintro _ _ _ ⟨rfl, rfl, rfl⟩) | ((first | refine pe rfl (st_box rfl) ?_ | refine pe rfl (st_alloc tok rfl) ?_ | refine pe rfl (st_buildSlice tok rfl rfl rfl rfl rfl rfl rfl) ?_); rintro _ _ _ ⟨_, rfl, rfl, rfl⟩) | (refine prn_o0 rfl (sst tok rfl rfl rfl rfl rfl) (by decide +kernel) ?_; rintro _ _ _ ⟨rfl, rfl, rfl⟩; refine ⟨by (repeat (first | exact trivial | refine And.intro (pend_q rfl rfl rfl (qt_pev tok rfl)) ?_ | refine And.intro (pend_q rfl rfl rfl (ql tok rfl)) ?_)), ?_⟩) | ((first | refine po rfl (st_box rfl) ?_ | refine po rfl (st_alloc tok rfl) ?_ | refine po rfl (st_buildSlice tok rfl rfl rfl rfl rfl rfl rfl) ?_); rintro _ _ _ ⟨_, rfl, rfl, rfl⟩; refine ⟨by (repeat (first | exact trivial | refine And.intro (pend_q rfl rfl rfl (qt_pev tok rfl)) ?_ | refine And.intro (pend_q rfl rfl rfl (ql tok rfl)) ?_)), ?_⟩) | (refine pe rfl (qt_pev tok rfl) ?_; rintro _ _ _ ⟨rfl, rfl, rfl⟩))
  refine prn_o1 rfl (st_callF rfl (fun _ => tnum_eq h8 _ _ bc)) (by decide +kernel) rfl rfl rfl ?_
  rintro _ _ _ ⟨rfl, rfl, rfl⟩
  refine ⟨by (repeat (first | exact trivial | refine And.intro (pend_q rfl rfl rfl (qt_pev tok rfl)) ?_ | refine And.intro (pend_q rfl rfl rfl (ql tok rfl)) ?_)), ?_⟩
  repeat (first | with_reducible (first | refine cS ?_ | refine cR ?_ | refine cN ?_ | refine cK ?_ | refine cB ?_ | refine cI ?_) | refine cE rfl ?_ | refine rq (qt_pev tok rfl) ?_ | refine rg rfl rfl (qt_pev tok rfl) ?_ | refine rq (ql tok rfl) ?_ | refine rg rfl rfl (ql tok rfl) ?_ | (refine runL_op0 (sst tok rfl rfl rfl rfl rfl) ?_; rintro _ _ _ ⟨rfl, rfl, rfl⟩) | ((first | refine ro (st_box rfl) ?_ | refine ro (st_alloc tok rfl) ?_ | refine ro (st_buildSlice tok rfl rfl rfl rfl rfl rfl rfl) ?_); rintro _ _ _ ⟨_, rfl, rfl, rfl⟩) | refine prn_start mixed ?_ | refine prn_end (by decide +kernel) ?_ | refine pq rfl (qt_pev tok rfl) ?_ | refine pg rfl rfl rfl (qt_pev tok rfl) ?_ | refine pq rfl (ql tok rfl) ?_ | refine pg rfl rfl rfl (ql tok rfl) ?_ | (refine prn_e0 rfl (sst tok rfl rfl rfl rfl rfl) (by decide +kernel) ?_; rintro _ _ _ ⟨rfl, rfl, rfl⟩) | ((first | refine pe rfl (st_box rfl) ?_ | refine pe rfl (st_alloc tok rfl) ?_ | refine pe rfl (st_buildSlice tok rfl rfl rfl rfl rfl rfl rfl) ?_); rintro _ _ _ ⟨_, rfl, rfl, rfl⟩) | (refine prn_o0 rfl (sst tok rfl rfl rfl rfl rfl) (by decide +kernel) ?_; rintro _ _ _ ⟨rfl, rfl, rfl⟩; refine ⟨by (repeat (first | exact trivial | refine And.intro (pend_q rfl rfl rfl (qt_pev tok rfl)) ?_ | refine And.intro (pend_q rfl rfl rfl (ql tok rfl)) ?_)), ?_⟩) | ((first | refine po rfl (st_box rfl) ?_ | refine po rfl (st_alloc tok rfl) ?_ | refine po rfl (st_buildSlice tok rfl rfl rfl rfl rfl rfl rfl) ?_); rintro _ _ _ ⟨_, rfl, rfl, rfl⟩; refine ⟨by (repeat (first | exact trivial | refine And.intro (pend_q rfl rfl rfl (qt_pev tok rfl)) ?_ | refine And.intro (pend_q rfl rfl rfl (ql tok rfl)) ?_)), ?_⟩) | (refine pe rfl (qt_pev tok rfl) ?_; rintro _ _ _ ⟨rfl, rfl, rfl⟩))
  rename_i bn
  refine prn_o1 rfl (st_append (n := j) (m := 1) (news := inC (vx : Int)) tok rfl rfl rfl rfl rfl rfl rfl rfl (pm3 _ _ _ N _) hO (.inr ⟨bn, 0, 1, rfl, cellsAll List.mem_cons_self, rfl⟩) (inOne _) (by omega) (by omega)) (by decide +kernel) rfl rfl rfl ?_
  rintro mv' _ _ ⟨N', rfl, rfl, hO'⟩
  obtain ⟨aa, ca, rfl⟩ := osSl hO'
  refine ⟨by (repeat (first | exact trivial | refine And.intro (pend_q rfl rfl rfl (qt_pev tok rfl)) ?_ | refine And.intro (pend_q rfl rfl rfl (ql tok rfl)) ?_)), ?_⟩
  repeat (first | with_reducible (first | refine cS ?_ | refine cR ?_ | refine cN ?_ | refine cK ?_ | refine cB ?_ | refine cI ?_) | refine cE rfl ?_ | refine rq (qt_pev tok rfl) ?_ | refine rg rfl rfl (qt_pev tok rfl) ?_ | refine rq (ql tok rfl) ?_ | refine rg rfl rfl (ql tok rfl) ?_ | (refine runL_op0 (sst tok rfl rfl rfl rfl rfl) ?_; rintro _ _ _ ⟨rfl, rfl, rfl⟩) | ((first | refine ro (st_box rfl) ?_ | refine ro (st_alloc tok rfl) ?_ | refine ro (st_buildSlice tok rfl rfl rfl rfl rfl rfl rfl) ?_); rintro _ _ _ ⟨_, rfl, rfl, rfl⟩) | refine prn_start mixed ?_ | refine prn_end (by decide +kernel) ?_ | refine pq rfl (qt_pev tok rfl) ?_ | refine pg rfl rfl rfl (qt_pev tok rfl) ?_ | refine pq rfl (ql tok rfl) ?_ | refine pg rfl rfl rfl (ql tok rfl) ?_ | (refine prn_e0 rfl (sst tok rfl rfl rfl rfl rfl) (by decide +kernel) ?_; rintro _ _ _ ⟨rfl, rfl, rfl⟩) | ((first | refine pe rfl (st_box rfl) ?_ | refine pe rfl (st_alloc tok rfl) ?_ | refine pe rfl (st_buildSlice tok rfl rfl rfl rfl rfl rfl rfl) ?_); rintro _ _ _ ⟨_, rfl, rfl, rfl⟩) | (refine prn_o0 rfl (sst tok rfl rfl rfl rfl rfl) (by decide +kernel) ?_; rintro _ _ _ ⟨rfl, rfl, rfl⟩; refine ⟨by (repeat (first | exact trivial | refine And.intro (pend_q rfl rfl rfl (qt_pev tok rfl)) ?_ | refine And.intro (pend_q rfl rfl rfl (ql tok rfl)) ?_)), ?_⟩) | ((first | refine po rfl (st_box rfl) ?_ | refine po rfl (st_alloc tok rfl) ?_ | refine po rfl (st_buildSlice tok rfl rfl rfl rfl rfl rfl rfl) ?_); rintro _ _ _ ⟨_, rfl, rfl, rfl⟩; refine ⟨by (repeat (first | exact trivial | refine And.intro (pend_q rfl rfl rfl (qt_pev tok rfl)) ?_ | refine And.intro (pend_q rfl rfl rfl (ql tok rfl)) ?_)), ?_⟩) | (refine pe rfl (qt_pev tok rfl) ?_; rintro _ _ _ ⟨rfl, rfl, rfl⟩))
  refine run_mem (fun _ h => (h.perm (pm3 _ _ _ N' _).symm).drop) (run_sub' (hnext _ _ _ ⟨by omega, rfl, hlt, xs ++ [(vx : Int)], cx, _, N', by simp [hxl], ?_, ?_, by rw [← inFlat]; exact hO', rfl, rfl⟩) ⟨lk_succ rfl (by omega), rfl, rfl, rfl, rfl, trivial⟩)
  · rw [hkj]
    simp
  · by_cases hb : cx.2 = true
    · have := (e8 hb).2
      rw [if_pos hb]; omega
    · rw [if_neg hb]; omega
end Go.Proofs.Ytbpgiodfccijmaa
namespace Go.Proofs.Ytbpgiodfccijmaa
open Go.Chi

/-! ### the document's taker: an act -/
def atV (k o au n : Int) (g : Value) (t : Tx) (y : Bool) (s : Value) : List Value := [.int .u8 k, .int .i64 o, .int .i64 au, .int .i64 n, g, .int .i64 t.coord, .int .i64 t.epoch, .int .i64 t.seq, .bool y, s]
abbrev atB (pb : Nat) (k o au n : Int) (g : Value) (t : Tx) (y : Bool) (s : Value) : Nat × Obj := (pb, .cells ⟨atV k o au n g t y s⟩ 37 (0, 0))
abbrev nmB (pb : Nat) (o au n g t y s : Bool) : Nat × Obj := (pb, .cells ⟨[.bool o, .bool au, .bool n, .bool g, .bool t, .bool y, .bool s]⟩ 59 (0, 0))
theorem tk4 (x y z u : Nat × Obj) (L : HL) : (x :: y :: z :: u :: L).Perm (u :: x :: y :: z :: L) := permMid [x, y, z] [u] L
theorem shrTk {α : Type} {p : Tk → α × Tk} (b : Bool) (z : α) (h : Shr p) (c : Tk) : (opK b z p c).2.1.size ≤ c.1.size := Shr.op b z h c
theorem mbOne' (r : Mb) : ∀ u ∈ mbC r, u.oneCell' = true := by intro u hu; simp [mbC] at hu; rcases hu with rfl | rfl <;> rfl
theorem mbFlat (l : List Mb) (x : Mb) : (l.map mbC).flatten ++ mbC x = ((l ++ [x]).map mbC).flatten := by simp
theorem srOne' (r : Sr) : ∀ u ∈ srC r, u.oneCell' = true := by
  intro u hu
  simp only [srC, List.mem_cons, List.not_mem_nil, or_false] at hu
  rcases hu with rfl | rfl | rfl | rfl | rfl | rfl | rfl <;> rfl
theorem srFlat (l : List Sr) (x : Sr) : (l.map srC).flatten ++ srC x = ((l ++ [x]).map srC).flatten := by simp
set_option maxRecDepth 10000 in
set_option maxHeartbeats 64000000 in
theorem tact_ok (M : Mem) (L : HL) (bc : Nat) (c : Tk) (k : Int) {o au n g t y s : Bool} (hof : ofC k = [.bool o, .bool au, .bool n, .bool g, .bool t, .bool y, .bool s]) (hs : c.1.size < 999980) :
    Tr Try.prog 34 [.pointer (some ⟨bc, 0, none⟩), .int .u8 k] M (tkB bc c :: L) (fun v M' L' => ∃ x : Ax, v = .agg ⟨axC x⟩ ∧ AxOk M' x ∧ x.aa = (kAct o au n g t y s k c).1 ∧ M.le M' ∧ L' = tkB bc (kAct o au n g t y s k c).2 :: L) := by
  have hOf : ∀ L', TrQ Try.prog 27 [.int .u8 k] M L' (.tuple ⟨[.agg ⟨[.bool o, .bool au, .bool n, .bool g, .bool t, .bool y, .bool s]⟩, .bool (decide (1 ≤ k ∧ k ≤ 10))]⟩) := by
    intro L'
    have := refOf_ok M L' k
    rwa [hof] at this
  have hKA : kAct o au n g t y s k c = (bK (opK o 0 kN) fun vo => bK (opK au 0 kN) fun va => bK (opK n 0 kN) fun vn => bK (opK g [] kGives) fun vg => bK (opK t tz kTx) fun vt => bK (opK y false kY) fun vy => bK (opK s [] kSteps) fun vs => puK ⟨k, vo, va, vn, vg, vt, vy, vs⟩) c := rfl
  refine Tr.intro 118 Try.func34 rfl rfl Try.call34 rfl ?_
  intro C hC hro
  rw [hKA] at hC
  clear hKA
  repeat (first | with_reducible (first | refine cS ?_ | refine cR ?_ | refine cN ?_ | refine cK ?_ | refine cB ?_ | refine cI ?_) | refine cE rfl ?_ | refine rq (qt_pev tok rfl) ?_ | refine rg rfl rfl (qt_pev tok rfl) ?_ | refine rq (ql tok rfl) ?_ | refine rg rfl rfl (ql tok rfl) ?_ | (refine runL_op0 (sst tok rfl rfl rfl rfl rfl) ?_; rintro _ _ _ ⟨rfl, rfl, rfl⟩) | ((first | refine ro (st_box rfl) ?_ | refine ro (st_alloc tok rfl) ?_ | refine ro (st_buildSlice tok rfl rfl rfl rfl rfl rfl rfl) ?_); rintro _ _ _ ⟨_, rfl, rfl, rfl⟩) | refine runL_q (qt_callF rfl (fun _ => hOf _)) rfl rfl rfl ?_)
  rename_i b4 b5 b7
  refine run_mem (M' := M) (L' := tkB bc c :: atB b7 k 0 0 0 (.slice none 0 0) ⟨0, 0, 0⟩ false (.slice none 0 0) :: nmB b5 o au n g t y s :: atB b4 0 0 0 0 (.slice none 0 0) ⟨0, 0, 0⟩ false (.slice none 0 0) :: L) (fun _ h => h.perm (tk4 _ _ _ _ _)) ?_
  repeat (first | with_reducible (first | refine cS ?_ | refine cR ?_ | refine cN ?_ | refine cK ?_ | refine cB ?_ | refine cI ?_) | refine cE rfl ?_ | refine rq (qt_pev tok rfl) ?_ | refine rg rfl rfl (qt_pev tok rfl) ?_ | refine rq (ql tok rfl) ?_ | refine rg rfl rfl (ql tok rfl) ?_ | (refine runL_op0 (sst tok rfl rfl rfl rfl rfl) ?_; rintro _ _ _ ⟨rfl, rfl, rfl⟩) | ((first | refine ro (st_box rfl) ?_ | refine ro (st_alloc tok rfl) ?_ | refine ro (st_buildSlice tok rfl rfl rfl rfl rfl rfl rfl) ?_); rintro _ _ _ ⟨_, rfl, rfl, rfl⟩))
  obtain ⟨vo, c1, h1, q1⟩ : ∃ (v : Int) (c' : Tk), opK o 0 kN c = (v, c') ∧ c'.1.size ≤ c.1.size := ⟨_, _, rfl, shrTk o 0 shrN c⟩
  refine run_cut (fun σ' M' L' => σ' = [(0, .pointer (some ⟨bc, 0, none⟩)), (5, .pointer (some ⟨b5, 0, none⟩)), (7, .pointer (some ⟨b7, 0, none⟩)), (4, .pointer (some ⟨b4, 0, none⟩))] ∧ M = M' ∧ L' = tkB bc c1 :: atB b7 k vo 0 0 (.slice none 0 0) ⟨0, 0, 0⟩ false (.slice none 0 0) :: nmB b5 o au n g t y s :: atB b4 0 0 0 0 (.slice none 0 0) ⟨0, 0, 0⟩ false (.slice none 0 0) :: L) ?_ ?_
  rotate_left
  · intro hnext
    refine run_cond rfl (fun h => ?_) (fun h => ?_)
    · have hk : kN c = (vo, c1) := by rw [← h1, h]; rfl
      refine run_region ?_
      repeat (first | refine rq (qt_pev tok rfl) ?_ | refine rg rfl rfl (qt_pev tok rfl) ?_ | refine rq (ql tok rfl) ?_ | refine rg rfl rfl (ql tok rfl) ?_ | (refine runL_op0 (sst tok rfl rfl rfl rfl rfl) ?_; rintro _ _ _ ⟨rfl, rfl, rfl⟩) | ((first | refine ro (st_box rfl) ?_ | refine ro (st_alloc tok rfl) ?_ | refine ro (st_buildSlice tok rfl rfl rfl rfl rfl rfl rfl) ?_); rintro _ _ _ ⟨_, rfl, rfl, rfl⟩) | refine runL_op (st_callF rfl (fun _ => tnum_eq hk _ _ bc)) rfl rfl rfl ?_; rintro _ _ _ ⟨rfl, rfl, rfl⟩)
      refine runL_nil ?_
      exact run_sub' (hnext _ _ _ ⟨rfl, rfl, rfl⟩) ⟨rfl, rfl, rfl, rfl, trivial⟩
    · have hk : ((0 : Int), c) = (vo, c1) := by rw [← h1, h]; rfl
      obtain ⟨e1, e2⟩ := Prod.mk.inj hk
      rw [← e1, ← e2] at hnext
      refine run_skip ?_
      exact run_sub' (hnext _ _ _ ⟨rfl, rfl, rfl⟩) ⟨rfl, rfl, rfl, rfl, trivial⟩
  rintro _ _ _ ⟨rfl, rfl, rfl⟩
  repeat (first | with_reducible (first | refine cS ?_ | refine cR ?_ | refine cN ?_ | refine cK ?_ | refine cB ?_ | refine cI ?_) | refine cE rfl ?_ | refine rq (qt_pev tok rfl) ?_ | refine rg rfl rfl (qt_pev tok rfl) ?_ | refine rq (ql tok rfl) ?_ | refine rg rfl rfl (ql tok rfl) ?_ | (refine runL_op0 (sst tok rfl rfl rfl rfl rfl) ?_; rintro _ _ _ ⟨rfl, rfl, rfl⟩) | ((first | refine ro (st_box rfl) ?_ | refine ro (st_alloc tok rfl) ?_ | refine ro (st_buildSlice tok rfl rfl rfl rfl rfl rfl rfl) ?_); rintro _ _ _ ⟨_, rfl, rfl, rfl⟩))
  obtain ⟨va, c2, h2, q2⟩ : ∃ (v : Int) (c' : Tk), opK au 0 kN c1 = (v, c') ∧ c'.1.size ≤ c1.1.size := ⟨_, _, rfl, shrTk au 0 shrN c1⟩
  refine run_cut (fun σ' M' L' => σ' = [(0, .pointer (some ⟨bc, 0, none⟩)), (5, .pointer (some ⟨b5, 0, none⟩)), (7, .pointer (some ⟨b7, 0, none⟩)), (4, .pointer (some ⟨b4, 0, none⟩))] ∧ M = M' ∧ L' = tkB bc c2 :: atB b7 k vo va 0 (.slice none 0 0) ⟨0, 0, 0⟩ false (.slice none 0 0) :: nmB b5 o au n g t y s :: atB b4 0 0 0 0 (.slice none 0 0) ⟨0, 0, 0⟩ false (.slice none 0 0) :: L) ?_ ?_
  rotate_left
  · intro hnext
    refine run_cond rfl (fun h => ?_) (fun h => ?_)
    · have hk : kN c1 = (va, c2) := by rw [← h2, h]; rfl
      refine run_region ?_
      repeat (first | refine rq (qt_pev tok rfl) ?_ | refine rg rfl rfl (qt_pev tok rfl) ?_ | refine rq (ql tok rfl) ?_ | refine rg rfl rfl (ql tok rfl) ?_ | (refine runL_op0 (sst tok rfl rfl rfl rfl rfl) ?_; rintro _ _ _ ⟨rfl, rfl, rfl⟩) | ((first | refine ro (st_box rfl) ?_ | refine ro (st_alloc tok rfl) ?_ | refine ro (st_buildSlice tok rfl rfl rfl rfl rfl rfl rfl) ?_); rintro _ _ _ ⟨_, rfl, rfl, rfl⟩) | refine runL_op (st_callF rfl (fun _ => tnum_eq hk _ _ bc)) rfl rfl rfl ?_; rintro _ _ _ ⟨rfl, rfl, rfl⟩)
      refine runL_nil ?_
      exact run_sub' (hnext _ _ _ ⟨rfl, rfl, rfl⟩) ⟨rfl, rfl, rfl, rfl, trivial⟩
    · have hk : ((0 : Int), c1) = (va, c2) := by rw [← h2, h]; rfl
      obtain ⟨e1, e2⟩ := Prod.mk.inj hk
      rw [← e1, ← e2] at hnext
      refine run_skip ?_
      exact run_sub' (hnext _ _ _ ⟨rfl, rfl, rfl⟩) ⟨rfl, rfl, rfl, rfl, trivial⟩
  rintro _ _ _ ⟨rfl, rfl, rfl⟩
  repeat (first | with_reducible (first | refine cS ?_ | refine cR ?_ | refine cN ?_ | refine cK ?_ | refine cB ?_ | refine cI ?_) | refine cE rfl ?_ | refine rq (qt_pev tok rfl) ?_ | refine rg rfl rfl (qt_pev tok rfl) ?_ | refine rq (ql tok rfl) ?_ | refine rg rfl rfl (ql tok rfl) ?_ | (refine runL_op0 (sst tok rfl rfl rfl rfl rfl) ?_; rintro _ _ _ ⟨rfl, rfl, rfl⟩) | ((first | refine ro (st_box rfl) ?_ | refine ro (st_alloc tok rfl) ?_ | refine ro (st_buildSlice tok rfl rfl rfl rfl rfl rfl rfl) ?_); rintro _ _ _ ⟨_, rfl, rfl, rfl⟩))
  obtain ⟨vn, c3, h3, q3⟩ : ∃ (v : Int) (c' : Tk), opK n 0 kN c2 = (v, c') ∧ c'.1.size ≤ c2.1.size := ⟨_, _, rfl, shrTk n 0 shrN c2⟩
  refine run_cut (fun σ' M' L' => σ' = [(0, .pointer (some ⟨bc, 0, none⟩)), (5, .pointer (some ⟨b5, 0, none⟩)), (7, .pointer (some ⟨b7, 0, none⟩)), (4, .pointer (some ⟨b4, 0, none⟩))] ∧ M = M' ∧ L' = tkB bc c3 :: atB b7 k vo va vn (.slice none 0 0) ⟨0, 0, 0⟩ false (.slice none 0 0) :: nmB b5 o au n g t y s :: atB b4 0 0 0 0 (.slice none 0 0) ⟨0, 0, 0⟩ false (.slice none 0 0) :: L) ?_ ?_
  rotate_left
  · intro hnext
    refine run_cond rfl (fun h => ?_) (fun h => ?_)
    · have hk : kN c2 = (vn, c3) := by rw [← h3, h]; rfl
      refine run_region ?_
      repeat (first | refine rq (qt_pev tok rfl) ?_ | refine rg rfl rfl (qt_pev tok rfl) ?_ | refine rq (ql tok rfl) ?_ | refine rg rfl rfl (ql tok rfl) ?_ | (refine runL_op0 (sst tok rfl rfl rfl rfl rfl) ?_; rintro _ _ _ ⟨rfl, rfl, rfl⟩) | ((first | refine ro (st_box rfl) ?_ | refine ro (st_alloc tok rfl) ?_ | refine ro (st_buildSlice tok rfl rfl rfl rfl rfl rfl rfl) ?_); rintro _ _ _ ⟨_, rfl, rfl, rfl⟩) | refine runL_op (st_callF rfl (fun _ => tnum_eq hk _ _ bc)) rfl rfl rfl ?_; rintro _ _ _ ⟨rfl, rfl, rfl⟩)
      refine runL_nil ?_
      exact run_sub' (hnext _ _ _ ⟨rfl, rfl, rfl⟩) ⟨rfl, rfl, rfl, rfl, trivial⟩
    · have hk : ((0 : Int), c2) = (vn, c3) := by rw [← h3, h]; rfl
      obtain ⟨e1, e2⟩ := Prod.mk.inj hk
      rw [← e1, ← e2] at hnext
      refine run_skip ?_
      exact run_sub' (hnext _ _ _ ⟨rfl, rfl, rfl⟩) ⟨rfl, rfl, rfl, rfl, trivial⟩
  rintro _ _ _ ⟨rfl, rfl, rfl⟩
  repeat (first | with_reducible (first | refine cS ?_ | refine cR ?_ | refine cN ?_ | refine cK ?_ | refine cB ?_ | refine cI ?_) | refine cE rfl ?_ | refine rq (qt_pev tok rfl) ?_ | refine rg rfl rfl (qt_pev tok rfl) ?_ | refine rq (ql tok rfl) ?_ | refine rg rfl rfl (ql tok rfl) ?_ | (refine runL_op0 (sst tok rfl rfl rfl rfl rfl) ?_; rintro _ _ _ ⟨rfl, rfl, rfl⟩) | ((first | refine ro (st_box rfl) ?_ | refine ro (st_alloc tok rfl) ?_ | refine ro (st_buildSlice tok rfl rfl rfl rfl rfl rfl rfl) ?_); rintro _ _ _ ⟨_, rfl, rfl, rfl⟩))
  obtain ⟨vg, c4, h4, q4⟩ : ∃ (v : List Mb) (c' : Tk), opK g [] kGives c3 = (v, c') ∧ c'.1.size ≤ c3.1.size := ⟨_, _, rfl, shrTk g [] (Shr.bind shrN fun _ => shrGs _) c3⟩
  refine run_cut (fun σ' M' L' => ∃ sm : SMb, M.le M' ∧ MbOk M' sm ∧ sm.xs = vg ∧ (∀ m ∈ sm.xs, m.digest.size ≤ 16384) ∧ σ' = [(0, .pointer (some ⟨bc, 0, none⟩)), (5, .pointer (some ⟨b5, 0, none⟩)), (7, .pointer (some ⟨b7, 0, none⟩)), (4, .pointer (some ⟨b4, 0, none⟩))] ∧ L' = tkB bc c4 :: atB b7 k vo va vn sm.v ⟨0, 0, 0⟩ false (.slice none 0 0) :: nmB b5 o au n g t y s :: atB b4 0 0 0 0 (.slice none 0 0) ⟨0, 0, 0⟩ false (.slice none 0 0) :: L) ?_ ?_
  rotate_left
  · intro hcut
    refine run_cond rfl (fun h => ?_) (fun h => ?_)
    rotate_left
    · have hk : (([] : List Mb), c3) = (vg, c4) := by rw [← h4, h]; rfl
      obtain ⟨e1, e2⟩ := Prod.mk.inj hk
      rw [← e1, ← e2] at hcut
      refine run_skip ?_
      exact run_sub' (hcut _ _ _ ⟨⟨none, 0, 0, []⟩, Mem.le_refl _, MbOk.nil _, rfl, (fun m hm => by cases hm), rfl, rfl⟩) ⟨rfl, rfl, rfl, rfl, trivial⟩
    obtain ⟨cnt, c5, h5, d5, q5, _⟩ := kN_ex c3
    have hk : kGs cnt c5 = (vg, c4) := by
      have e : opK g [] kGives c3 = kGs (kN c3).1.toNat (kN c3).2 := by rw [h]; rfl
      rw [← h4, e, h5, Int.toNat_natCast]
    repeat (first | with_reducible (first | refine cS ?_ | refine cR ?_ | refine cN ?_ | refine cK ?_ | refine cB ?_ | refine cI ?_) | refine cE rfl ?_ | refine rq (qt_pev tok rfl) ?_ | refine rg rfl rfl (qt_pev tok rfl) ?_ | refine rq (ql tok rfl) ?_ | refine rg rfl rfl (ql tok rfl) ?_ | (refine runL_op0 (sst tok rfl rfl rfl rfl rfl) ?_; rintro _ _ _ ⟨rfl, rfl, rfl⟩) | ((first | refine ro (st_box rfl) ?_ | refine ro (st_alloc tok rfl) ?_ | refine ro (st_buildSlice tok rfl rfl rfl rfl rfl rfl rfl) ?_); rintro _ _ _ ⟨_, rfl, rfl, rfl⟩) | refine runL_op (st_callF rfl (fun _ => tnum_eq h5 _ _ bc)) rfl rfl rfl ?_; rintro _ _ _ ⟨rfl, rfl, rfl⟩)
    refine run_loopN (fun j σ1 M1 L1 => j ≤ c5.1.size + 1 ∧ M = M1 ∧ j ≤ cnt ∧ ∃ (xs : List Mb) (cj : Tk) (v : Value) (N : HL), xs.length = j ∧ kGs cnt c5 = (xs ++ (kGs (cnt - j) cj).1, (kGs (cnt - j) cj).2) ∧ cj.1.size + j ≤ c5.1.size + (if cj.2 = true then 0 else 1) ∧ (∀ m ∈ xs, m.digest.size ≤ 16384) ∧ OS 48 2 v j (xs.map mbC).flatten N ∧ L1 = tkB bc cj :: atB b7 k vo va vn v ⟨0, 0, 0⟩ false (.slice none 0 0) :: (N ++ nmB b5 o au n g t y s :: atB b4 0 0 0 0 (.slice none 0 0) ⟨0, 0, 0⟩ false (.slice none 0 0) :: L) ∧ σ1 = [(9, .int .i64 (j : Int)), (8, .int .i64 (cnt : Int)), (0, .pointer (some ⟨bc, 0, none⟩)), (5, .pointer (some ⟨b5, 0, none⟩)), (7, .pointer (some ⟨b7, 0, none⟩)), (4, .pointer (some ⟨b4, 0, none⟩))]) (c5.1.size + 1) [(9, .int .i64 ((0 : Nat) : Int)), (8, .int .i64 (cnt : Int)), (0, .pointer (some ⟨bc, 0, none⟩)), (5, .pointer (some ⟨b5, 0, none⟩)), (7, .pointer (some ⟨b7, 0, none⟩)), (4, .pointer (some ⟨b4, 0, none⟩))] ?_ ⟨Nat.zero_le _, rfl, Nat.zero_le _, [], c5, .slice none 0 0, [], rfl, rfl, by omega, (fun m hm => by cases hm), OS.nil _ _, rfl, rfl⟩ (fun j _ _ _ h => h.1) ?_
    · exact ⟨rfl, rfl, rfl, rfl, rfl, rfl, trivial⟩
    rintro j _ _ _ ⟨hj1, rfl, hj, xs, cj, v, N, hxl, hkj, hzj, hd, hO, rfl, rfl⟩ hnext
    repeat (first | with_reducible (first | refine cS ?_ | refine cR ?_ | refine cN ?_ | refine cK ?_ | refine cB ?_ | refine cI ?_) | refine cE rfl ?_ | refine rq (qt_pev tok rfl) ?_ | refine rg rfl rfl (qt_pev tok rfl) ?_ | refine rq (ql tok rfl) ?_ | refine rg rfl rfl (ql tok rfl) ?_ | (refine runL_op0 (sst tok rfl rfl rfl rfl rfl) ?_; rintro _ _ _ ⟨rfl, rfl, rfl⟩) | ((first | refine ro (st_box rfl) ?_ | refine ro (st_alloc tok rfl) ?_ | refine ro (st_buildSlice tok rfl rfl rfl rfl rfl rfl rfl) ?_); rintro _ _ _ ⟨_, rfl, rfl, rfl⟩))
    refine run_cond rfl (fun h => ?_) (fun h => ?_)
    rotate_left
    · have hz : kGs (cnt - j) cj = ([], cj) := by
        have h' : (decide ((j : Int) < (cnt : Int)) && cj.2) = false := h
        by_cases hjc : j < cnt
        · have : cj.2 = false := by simpa [hjc] using h'
          exact kGs_off (by simp [this]) _
        · rw [show cnt - j = 0 by omega]; rfl
      rw [hz] at hkj
      simp only [List.append_nil] at hkj
      rw [hk] at hkj
      obtain ⟨e1, e2⟩ := Prod.mk.inj hkj
      refine run_exit rfl ?_
      refine run_memE (fun M' L' => M.le M' ∧ ∃ sm : SMb, MbOk M' sm ∧ sm.xs = xs ∧ L' = tkB bc cj :: atB b7 k vo va vn sm.v ⟨0, 0, 0⟩ false (.slice none 0 0) :: nmB b5 o au n g t y s :: atB b4 0 0 0 0 (.slice none 0 0) ⟨0, 0, 0⟩ false (.slice none 0 0) :: L) (fun w hw => ?_) ?_
      · obtain ⟨M', a', c', h1, h2, h3, h4⟩ := (hw.perm (pm2 _ _ N _)).freezeOS hO (by simpa using hxl) (mb_all _)
        exact ⟨M', _, h2, h1, ⟨a', j, c', xs⟩, ⟨h4, by show j < _; omega⟩, rfl, by rw [h3]; rfl⟩
      rintro M' _ ⟨hM', sm, hsm, rfl, rfl⟩
      exact run_sub' (hcut _ _ _ ⟨sm, hM', hsm, e1.symm, hd, rfl, by rw [e2]⟩) ⟨rfl, rfl, rfl, rfl, trivial⟩
    have h' : (decide ((j : Int) < (cnt : Int)) && cj.2) = true := h
    obtain ⟨hlt, hcj⟩ : j < cnt ∧ cj.2 = true := by simpa using h'
    rw [show cnt - j = (cnt - (j + 1)) + 1 by omega, kGs_on hcj] at hkj
    obtain ⟨vx, cx, h8, d8, q8, e8⟩ := kN_ex cj
    obtain ⟨vt, cy, h9, d9, q9, e9⟩ := kT_ex 16384 cx
    rw [h8] at hkj
    simp only at hkj
    rw [h9] at hkj
    rw [if_pos hcj] at hzj
    obtain ⟨aa0, ca0, rfl⟩ := osSl hO
    repeat (first | with_reducible (first | refine cS ?_ | refine cR ?_ | refine cN ?_ | refine cK ?_ | refine cB ?_ | refine cI ?_) | refine cE rfl ?_ | refine rq (qt_pev tok rfl) ?_ | refine rg rfl rfl (qt_pev tok rfl) ?_ | refine rq (ql tok rfl) ?_ | refine rg rfl rfl (ql tok rfl) ?_ | (refine runL_op0 (sst tok rfl rfl rfl rfl rfl) ?_; rintro _ _ _ ⟨rfl, rfl, rfl⟩) | ((first | refine ro (st_box rfl) ?_ | refine ro (st_alloc tok rfl) ?_ | refine ro (st_buildSlice tok rfl rfl rfl rfl rfl rfl rfl) ?_); rintro _ _ _ ⟨_, rfl, rfl, rfl⟩) | refine runL_op (st_callF rfl (fun _ => tnum_eq h8 _ _ bc)) rfl rfl rfl ?_; rintro _ _ _ ⟨rfl, rfl, rfl⟩ | refine runL_op (st_callF rfl (fun _ => trPerm (List.Perm.swap _ _ _) (ttext_eq h9 _ _ bc (by decide) (by omega)))) rfl rfl rfl ?_; rintro _ _ _ ⟨rfl, rfl, rfl⟩)
    refine runL_op (st_append (n := j) (m := 1) (news := mbC ⟨(vx : Int), vt⟩) tok rfl rfl rfl rfl rfl rfl rfl rfl (pm4 _ _ _ _ N _) hO (.inr ⟨_, 0, 1, rfl, cellsAll List.mem_cons_self, rfl⟩) (mbOne' _) (by omega) (by omega)) rfl rfl rfl ?_
    rintro mv' _ _ ⟨N', rfl, rfl, hO'⟩
    obtain ⟨aa, ca, rfl⟩ := osSl hO'
    repeat (first | with_reducible (first | refine cS ?_ | refine cR ?_ | refine cN ?_ | refine cK ?_ | refine cB ?_ | refine cI ?_) | refine cE rfl ?_ | refine rq (qt_pev tok rfl) ?_ | refine rg rfl rfl (qt_pev tok rfl) ?_ | refine rq (ql tok rfl) ?_ | refine rg rfl rfl (ql tok rfl) ?_ | (refine runL_op0 (sst tok rfl rfl rfl rfl rfl) ?_; rintro _ _ _ ⟨rfl, rfl, rfl⟩) | ((first | refine ro (st_box rfl) ?_ | refine ro (st_alloc tok rfl) ?_ | refine ro (st_buildSlice tok rfl rfl rfl rfl rfl rfl rfl) ?_); rintro _ _ _ ⟨_, rfl, rfl, rfl⟩))
    refine run_mem (fun _ h => ((h.perm (pm4 _ _ _ _ N' _).symm).drop.perm (List.Perm.swap _ _ _)).drop) (run_sub' (hnext _ _ _ ⟨by omega, rfl, hlt, xs ++ [⟨(vx : Int), vt⟩], cy, _, N', by simp [hxl], ?_, ?_, ?_, by rw [← mbFlat]; exact hO', rfl, rfl⟩) ⟨lk_succ rfl (by omega), rfl, rfl, rfl, rfl, rfl, trivial⟩)
    · rw [hkj]
      simp
    · by_cases hb : cy.2 = true
      · have := (e8 (e9 hb)).2
        rw [if_pos hb]; omega
      · rw [if_neg hb]; omega
    · intro m hm
      rcases List.mem_append.1 hm with hm | hm
      · exact hd m hm
      · rw [List.mem_singleton.1 hm]; exact d9
  rintro _ M1 _ ⟨sm, hM1, hsm, hsx, hsd, rfl, rfl⟩
  repeat (first | with_reducible (first | refine cS ?_ | refine cR ?_ | refine cN ?_ | refine cK ?_ | refine cB ?_ | refine cI ?_) | refine cE rfl ?_ | refine rq (qt_pev tok rfl) ?_ | refine rg rfl rfl (qt_pev tok rfl) ?_ | refine rq (ql tok rfl) ?_ | refine rg rfl rfl (ql tok rfl) ?_ | (refine runL_op0 (sst tok rfl rfl rfl rfl rfl) ?_; rintro _ _ _ ⟨rfl, rfl, rfl⟩) | ((first | refine ro (st_box rfl) ?_ | refine ro (st_alloc tok rfl) ?_ | refine ro (st_buildSlice tok rfl rfl rfl rfl rfl rfl rfl) ?_); rintro _ _ _ ⟨_, rfl, rfl, rfl⟩))
  obtain ⟨vx, c5, h5, q5⟩ : ∃ (v : Tx) (c' : Tk), opK t tz kTx c4 = (v, c') ∧ c'.1.size ≤ c4.1.size := ⟨_, _, rfl, shrTk t tz shrTx c4⟩
  refine run_cut (fun σ' M' L' => σ' = [(0, .pointer (some ⟨bc, 0, none⟩)), (5, .pointer (some ⟨b5, 0, none⟩)), (7, .pointer (some ⟨b7, 0, none⟩)), (4, .pointer (some ⟨b4, 0, none⟩))] ∧ M1 = M' ∧ L' = tkB bc c5 :: atB b7 k vo va vn sm.v vx false (.slice none 0 0) :: nmB b5 o au n g t y s :: atB b4 0 0 0 0 (.slice none 0 0) ⟨0, 0, 0⟩ false (.slice none 0 0) :: L) ?_ ?_
  rotate_left
  · intro hnext
    refine run_cond rfl (fun h => ?_) (fun h => ?_)
    · obtain ⟨x1, d1, g1, _, p1, _⟩ := kN_ex c4
      obtain ⟨x2, d2, g2, _, p2, _⟩ := kN_ex d1
      obtain ⟨x3, d3, g3, _, p3', _⟩ := kN_ex d2
      have hk : ((⟨x1, x2, x3⟩ : Tx), d3) = (vx, c5) := by rw [← h5, h]; show _ = kTx c4; simp only [kTx, bK, puK, g1, g2, g3]
      obtain ⟨e1, e2⟩ := Prod.mk.inj hk
      rw [← e1, ← e2] at hnext
      refine run_seq ?_
      refine run_region ?_
      repeat (first | refine rq (qt_pev tok rfl) ?_ | refine rg rfl rfl (qt_pev tok rfl) ?_ | refine rq (ql tok rfl) ?_ | refine rg rfl rfl (ql tok rfl) ?_ | (refine runL_op0 (sst tok rfl rfl rfl rfl rfl) ?_; rintro _ _ _ ⟨rfl, rfl, rfl⟩) | ((first | refine ro (st_box rfl) ?_ | refine ro (st_alloc tok rfl) ?_ | refine ro (st_buildSlice tok rfl rfl rfl rfl rfl rfl rfl) ?_); rintro _ _ _ ⟨_, rfl, rfl, rfl⟩) | refine runL_op (st_callF rfl (fun _ => tnum_eq g1 _ _ bc)) rfl rfl rfl ?_; rintro _ _ _ ⟨rfl, rfl, rfl⟩)
      refine runL_nil ?_
      refine run_seq ?_
      refine run_region ?_
      repeat (first | refine rq (qt_pev tok rfl) ?_ | refine rg rfl rfl (qt_pev tok rfl) ?_ | refine rq (ql tok rfl) ?_ | refine rg rfl rfl (ql tok rfl) ?_ | (refine runL_op0 (sst tok rfl rfl rfl rfl rfl) ?_; rintro _ _ _ ⟨rfl, rfl, rfl⟩) | ((first | refine ro (st_box rfl) ?_ | refine ro (st_alloc tok rfl) ?_ | refine ro (st_buildSlice tok rfl rfl rfl rfl rfl rfl rfl) ?_); rintro _ _ _ ⟨_, rfl, rfl, rfl⟩) | refine runL_op (st_callF rfl (fun _ => tnum_eq g2 _ _ bc)) rfl rfl rfl ?_; rintro _ _ _ ⟨rfl, rfl, rfl⟩)
      refine runL_nil ?_
      refine run_region ?_
      repeat (first | refine rq (qt_pev tok rfl) ?_ | refine rg rfl rfl (qt_pev tok rfl) ?_ | refine rq (ql tok rfl) ?_ | refine rg rfl rfl (ql tok rfl) ?_ | (refine runL_op0 (sst tok rfl rfl rfl rfl rfl) ?_; rintro _ _ _ ⟨rfl, rfl, rfl⟩) | ((first | refine ro (st_box rfl) ?_ | refine ro (st_alloc tok rfl) ?_ | refine ro (st_buildSlice tok rfl rfl rfl rfl rfl rfl rfl) ?_); rintro _ _ _ ⟨_, rfl, rfl, rfl⟩) | refine runL_op (st_callF rfl (fun _ => tnum_eq g3 _ _ bc)) rfl rfl rfl ?_; rintro _ _ _ ⟨rfl, rfl, rfl⟩)
      refine runL_nil ?_
      exact run_sub' (hnext _ _ _ ⟨rfl, rfl, rfl⟩) ⟨rfl, rfl, rfl, rfl, trivial⟩
    · have hk : (tz, c4) = (vx, c5) := by rw [← h5, h]; rfl
      obtain ⟨e1, e2⟩ := Prod.mk.inj hk
      rw [← e1, ← e2] at hnext
      refine run_skip ?_
      exact run_sub' (hnext _ _ _ ⟨rfl, rfl, rfl⟩) ⟨rfl, rfl, rfl, rfl, trivial⟩
  rintro _ _ _ ⟨rfl, rfl, rfl⟩
  repeat (first | with_reducible (first | refine cS ?_ | refine cR ?_ | refine cN ?_ | refine cK ?_ | refine cB ?_ | refine cI ?_) | refine cE rfl ?_ | refine rq (qt_pev tok rfl) ?_ | refine rg rfl rfl (qt_pev tok rfl) ?_ | refine rq (ql tok rfl) ?_ | refine rg rfl rfl (ql tok rfl) ?_ | (refine runL_op0 (sst tok rfl rfl rfl rfl rfl) ?_; rintro _ _ _ ⟨rfl, rfl, rfl⟩) | ((first | refine ro (st_box rfl) ?_ | refine ro (st_alloc tok rfl) ?_ | refine ro (st_buildSlice tok rfl rfl rfl rfl rfl rfl rfl) ?_); rintro _ _ _ ⟨_, rfl, rfl, rfl⟩))
  obtain ⟨vy, c6, h6, q6⟩ : ∃ (v : Bool) (c' : Tk), opK y false kY c5 = (v, c') ∧ c'.1.size ≤ c5.1.size := ⟨_, _, rfl, shrTk y false shrY c5⟩
  refine run_cut (fun σ' M' L' => σ' = [(0, .pointer (some ⟨bc, 0, none⟩)), (5, .pointer (some ⟨b5, 0, none⟩)), (7, .pointer (some ⟨b7, 0, none⟩)), (4, .pointer (some ⟨b4, 0, none⟩))] ∧ M1 = M' ∧ L' = tkB bc c6 :: atB b7 k vo va vn sm.v vx vy (.slice none 0 0) :: nmB b5 o au n g t y s :: atB b4 0 0 0 0 (.slice none 0 0) ⟨0, 0, 0⟩ false (.slice none 0 0) :: L) ?_ ?_
  rotate_left
  · intro hnext
    refine run_cond rfl (fun h => ?_) (fun h => ?_)
    · obtain ⟨x1, d1, g1, _, p1, _⟩ := kN_ex c5
      have hk : (((x1 : Int) == 1), ((d1.1, d1.2 && decide ((x1 : Int) < 2)) : Tk)) = (vy, c6) := by rw [← h6, h]; show _ = kY c5; simp only [kY, bK, g1]
      obtain ⟨e1, e2⟩ := Prod.mk.inj hk
      rw [← e1, ← e2] at hnext
      refine run_seq ?_
      refine run_region ?_
      repeat (first | refine rq (qt_pev tok rfl) ?_ | refine rg rfl rfl (qt_pev tok rfl) ?_ | refine rq (ql tok rfl) ?_ | refine rg rfl rfl (ql tok rfl) ?_ | (refine runL_op0 (sst tok rfl rfl rfl rfl rfl) ?_; rintro _ _ _ ⟨rfl, rfl, rfl⟩) | ((first | refine ro (st_box rfl) ?_ | refine ro (st_alloc tok rfl) ?_ | refine ro (st_buildSlice tok rfl rfl rfl rfl rfl rfl rfl) ?_); rintro _ _ _ ⟨_, rfl, rfl, rfl⟩) | refine runL_op (st_callF rfl (fun _ => tnum_eq g1 _ _ bc)) rfl rfl rfl ?_; rintro _ _ _ ⟨rfl, rfl, rfl⟩)
      refine runL_nil ?_
      refine run_seq ?_
      refine run_region ?_
      repeat (first | refine rq (qt_pev tok rfl) ?_ | refine rg rfl rfl (qt_pev tok rfl) ?_ | refine rq (ql tok rfl) ?_ | refine rg rfl rfl (ql tok rfl) ?_ | (refine runL_op0 (sst tok rfl rfl rfl rfl rfl) ?_; rintro _ _ _ ⟨rfl, rfl, rfl⟩) | ((first | refine ro (st_box rfl) ?_ | refine ro (st_alloc tok rfl) ?_ | refine ro (st_buildSlice tok rfl rfl rfl rfl rfl rfl rfl) ?_); rintro _ _ _ ⟨_, rfl, rfl, rfl⟩))
      refine runL_nil ?_
      refine run_region ?_
      repeat (first | refine rq (qt_pev tok rfl) ?_ | refine rg rfl rfl (qt_pev tok rfl) ?_ | refine rq (ql tok rfl) ?_ | refine rg rfl rfl (ql tok rfl) ?_ | (refine runL_op0 (sst tok rfl rfl rfl rfl rfl) ?_; rintro _ _ _ ⟨rfl, rfl, rfl⟩) | ((first | refine ro (st_box rfl) ?_ | refine ro (st_alloc tok rfl) ?_ | refine ro (st_buildSlice tok rfl rfl rfl rfl rfl rfl rfl) ?_); rintro _ _ _ ⟨_, rfl, rfl, rfl⟩))
      refine runL_nil ?_
      exact run_sub' (hnext _ _ _ ⟨rfl, rfl, rfl⟩) ⟨rfl, rfl, rfl, rfl, trivial⟩
    · have hk : (false, c5) = (vy, c6) := by rw [← h6, h]; rfl
      obtain ⟨e1, e2⟩ := Prod.mk.inj hk
      rw [← e1, ← e2] at hnext
      refine run_skip ?_
      exact run_sub' (hnext _ _ _ ⟨rfl, rfl, rfl⟩) ⟨rfl, rfl, rfl, rfl, trivial⟩
  rintro _ _ _ ⟨rfl, rfl, rfl⟩
  repeat (first | with_reducible (first | refine cS ?_ | refine cR ?_ | refine cN ?_ | refine cK ?_ | refine cB ?_ | refine cI ?_) | refine cE rfl ?_ | refine rq (qt_pev tok rfl) ?_ | refine rg rfl rfl (qt_pev tok rfl) ?_ | refine rq (ql tok rfl) ?_ | refine rg rfl rfl (ql tok rfl) ?_ | (refine runL_op0 (sst tok rfl rfl rfl rfl rfl) ?_; rintro _ _ _ ⟨rfl, rfl, rfl⟩) | ((first | refine ro (st_box rfl) ?_ | refine ro (st_alloc tok rfl) ?_ | refine ro (st_buildSlice tok rfl rfl rfl rfl rfl rfl rfl) ?_); rintro _ _ _ ⟨_, rfl, rfl, rfl⟩))
  obtain ⟨vs, c7, h7, q7⟩ : ∃ (v : List Sp) (c' : Tk), opK s [] kSteps c6 = (v, c') ∧ c'.1.size ≤ c6.1.size := ⟨_, _, rfl, shrTk s [] (Shr.bind shrN fun _ => shrSps _) c6⟩
  refine run_cut (fun σ' M' L' => ∃ ss : SSr, M1.le M' ∧ SsOk M' ss ∧ ss.xs.map Sr.sp = vs ∧ σ' = [(0, .pointer (some ⟨bc, 0, none⟩)), (5, .pointer (some ⟨b5, 0, none⟩)), (7, .pointer (some ⟨b7, 0, none⟩)), (4, .pointer (some ⟨b4, 0, none⟩))] ∧ L' = tkB bc c7 :: atB b7 k vo va vn sm.v vx vy ss.v :: nmB b5 o au n g t y s :: atB b4 0 0 0 0 (.slice none 0 0) ⟨0, 0, 0⟩ false (.slice none 0 0) :: L) ?_ ?_
  rotate_left
  · intro hcut
    refine run_cond rfl (fun h => ?_) (fun h => ?_)
    rotate_left
    · have hk : (([] : List Sp), c6) = (vs, c7) := by rw [← h7, h]; rfl
      obtain ⟨e1, e2⟩ := Prod.mk.inj hk
      rw [← e1, ← e2] at hcut
      refine run_skip ?_
      exact run_sub' (hcut _ _ _ ⟨⟨none, 0, 0, []⟩, Mem.le_refl _, ⟨SlM.nil _ _ _, by show (0 : Nat) < _; decide, fun x hx => by cases hx⟩, rfl, rfl, rfl⟩) ⟨rfl, rfl, rfl, rfl, trivial⟩
    obtain ⟨cnt, c8, h8, d8, q8, _⟩ := kN_ex c6
    have hk : kSps cnt c8 = (vs, c7) := by
      have e : opK s [] kSteps c6 = kSps (kN c6).1.toNat (kN c6).2 := by rw [h]; rfl
      rw [← h7, e, h8, Int.toNat_natCast]
    repeat (first | with_reducible (first | refine cS ?_ | refine cR ?_ | refine cN ?_ | refine cK ?_ | refine cB ?_ | refine cI ?_) | refine cE rfl ?_ | refine rq (qt_pev tok rfl) ?_ | refine rg rfl rfl (qt_pev tok rfl) ?_ | refine rq (ql tok rfl) ?_ | refine rg rfl rfl (ql tok rfl) ?_ | (refine runL_op0 (sst tok rfl rfl rfl rfl rfl) ?_; rintro _ _ _ ⟨rfl, rfl, rfl⟩) | ((first | refine ro (st_box rfl) ?_ | refine ro (st_alloc tok rfl) ?_ | refine ro (st_buildSlice tok rfl rfl rfl rfl rfl rfl rfl) ?_); rintro _ _ _ ⟨_, rfl, rfl, rfl⟩) | refine runL_op (st_callF rfl (fun _ => tnum_eq h8 _ _ bc)) rfl rfl rfl ?_; rintro _ _ _ ⟨rfl, rfl, rfl⟩)
    refine run_loopN (fun j σ1 M2 L1 => j ≤ c8.1.size + 1 ∧ M1.le M2 ∧ j ≤ cnt ∧ ∃ (xs : List Sr) (cj : Tk) (v : Value) (N : HL), xs.length = j ∧ kSps cnt c8 = (xs.map Sr.sp ++ (kSps (cnt - j) cj).1, (kSps (cnt - j) cj).2) ∧ cj.1.size + j ≤ c8.1.size + (if cj.2 = true then 0 else 1) ∧ (∀ m ∈ xs, SrOk M2 m) ∧ OS 51 7 v j (xs.map srC).flatten N ∧ L1 = tkB bc cj :: atB b7 k vo va vn sm.v vx vy v :: (N ++ nmB b5 o au n g t y s :: atB b4 0 0 0 0 (.slice none 0 0) ⟨0, 0, 0⟩ false (.slice none 0 0) :: L) ∧ σ1 = [(13, .int .i64 (j : Int)), (12, .int .i64 (cnt : Int)), (0, .pointer (some ⟨bc, 0, none⟩)), (5, .pointer (some ⟨b5, 0, none⟩)), (7, .pointer (some ⟨b7, 0, none⟩)), (4, .pointer (some ⟨b4, 0, none⟩))]) (c8.1.size + 1) [(13, .int .i64 ((0 : Nat) : Int)), (12, .int .i64 (cnt : Int)), (0, .pointer (some ⟨bc, 0, none⟩)), (5, .pointer (some ⟨b5, 0, none⟩)), (7, .pointer (some ⟨b7, 0, none⟩)), (4, .pointer (some ⟨b4, 0, none⟩))] ?_ ⟨Nat.zero_le _, Mem.le_refl _, Nat.zero_le _, [], c8, .slice none 0 0, [], rfl, rfl, by omega, (fun m hm => by cases hm), OS.nil _ _, rfl, rfl⟩ (fun j _ _ _ h => h.1) ?_
    · exact ⟨rfl, rfl, rfl, rfl, rfl, rfl, trivial⟩
    rintro j _ M2 _ ⟨hj1, hM2, hj, xs, cj, v, N, hxl, hkj, hzj, hd, hO, rfl, rfl⟩ hnext
    repeat (first | with_reducible (first | refine cS ?_ | refine cR ?_ | refine cN ?_ | refine cK ?_ | refine cB ?_ | refine cI ?_) | refine cE rfl ?_ | refine rq (qt_pev tok rfl) ?_ | refine rg rfl rfl (qt_pev tok rfl) ?_ | refine rq (ql tok rfl) ?_ | refine rg rfl rfl (ql tok rfl) ?_ | (refine runL_op0 (sst tok rfl rfl rfl rfl rfl) ?_; rintro _ _ _ ⟨rfl, rfl, rfl⟩) | ((first | refine ro (st_box rfl) ?_ | refine ro (st_alloc tok rfl) ?_ | refine ro (st_buildSlice tok rfl rfl rfl rfl rfl rfl rfl) ?_); rintro _ _ _ ⟨_, rfl, rfl, rfl⟩))
    refine run_cond rfl (fun h => ?_) (fun h => ?_)
    rotate_left
    · have hz : kSps (cnt - j) cj = ([], cj) := by
        have h' : (decide ((j : Int) < (cnt : Int)) && cj.2) = false := h
        by_cases hjc : j < cnt
        · have : cj.2 = false := by simpa [hjc] using h'
          exact kSps_off (by simp [this]) _
        · rw [show cnt - j = 0 by omega]; rfl
      rw [hz] at hkj
      simp only [List.append_nil] at hkj
      rw [hk] at hkj
      obtain ⟨e1, e2⟩ := Prod.mk.inj hkj
      refine run_exit rfl ?_
      refine run_memE (fun M' L' => M2.le M' ∧ ∃ ss : SSr, SsOk M' ss ∧ ss.xs = xs ∧ L' = tkB bc cj :: atB b7 k vo va vn sm.v vx vy ss.v :: nmB b5 o au n g t y s :: atB b4 0 0 0 0 (.slice none 0 0) ⟨0, 0, 0⟩ false (.slice none 0 0) :: L) (fun w hw => ?_) ?_
      · obtain ⟨M', a', c', h1, h2, h3, h4⟩ := (hw.perm (pm2 _ _ N _)).freezeOS hO (by simpa using hxl) (sr_all _)
        exact ⟨M', _, h2, h1, ⟨a', j, c', xs⟩, ⟨h4, by show j < _; omega, fun m hm => (hd m hm).le h1⟩, rfl, by rw [h3]; rfl⟩
      rintro M' _ ⟨hM', ss, hss, rfl, rfl⟩
      exact run_sub' (hcut _ _ _ ⟨ss, Mem.le_trans hM2 hM', hss, e1.symm, rfl, by rw [e2]⟩) ⟨rfl, rfl, rfl, rfl, trivial⟩
    have h' : (decide ((j : Int) < (cnt : Int)) && cj.2) = true := h
    obtain ⟨hlt, hcj⟩ : j < cnt ∧ cj.2 = true := by simpa using h'
    rw [show cnt - j = (cnt - (j + 1)) + 1 by omega, kSps_on hcj] at hkj
    have z8 := shrSp cj
    have e8 := @kSp_eat cj
    rw [if_pos hcj] at hzj
    obtain ⟨aa0, ca0, rfl⟩ := osSl hO
    repeat (first | with_reducible (first | refine cS ?_ | refine cR ?_ | refine cN ?_ | refine cK ?_ | refine cB ?_ | refine cI ?_) | refine cE rfl ?_ | refine rq (qt_pev tok rfl) ?_ | refine rg rfl rfl (qt_pev tok rfl) ?_ | refine rq (ql tok rfl) ?_ | refine rg rfl rfl (ql tok rfl) ?_ | (refine runL_op0 (sst tok rfl rfl rfl rfl rfl) ?_; rintro _ _ _ ⟨rfl, rfl, rfl⟩) | ((first | refine ro (st_box rfl) ?_ | refine ro (st_alloc tok rfl) ?_ | refine ro (st_buildSlice tok rfl rfl rfl rfl rfl rfl rfl) ?_); rintro _ _ _ ⟨_, rfl, rfl, rfl⟩))
    repeat (first | with_reducible (first | refine cS ?_ | refine cR ?_ | refine cN ?_ | refine cK ?_ | refine cB ?_ | refine cI ?_) | refine cE rfl ?_ | refine rq (qt_pev tok rfl) ?_ | refine rg rfl rfl (qt_pev tok rfl) ?_ | refine rq (ql tok rfl) ?_ | refine rg rfl rfl (ql tok rfl) ?_ | (refine runL_op0 (sst tok rfl rfl rfl rfl rfl) ?_; rintro _ _ _ ⟨rfl, rfl, rfl⟩) | ((first | refine ro (st_box rfl) ?_ | refine ro (st_alloc tok rfl) ?_ | refine ro (st_buildSlice tok rfl rfl rfl rfl rfl rfl rfl) ?_); rintro _ _ _ ⟨_, rfl, rfl, rfl⟩) | refine prn_start mixed ?_ | refine prn_end (by decide +kernel) ?_ | refine pq rfl (qt_pev tok rfl) ?_ | refine pg rfl rfl rfl (qt_pev tok rfl) ?_ | refine pq rfl (ql tok rfl) ?_ | refine pg rfl rfl rfl (ql tok rfl) ?_ | (refine prn_e0 rfl (sst tok rfl rfl rfl rfl rfl) (by decide +kernel) ?_; rintro _ _ _ ⟨rfl, rfl, rfl⟩) | ((first | refine pe rfl (st_box rfl) ?_ | refine pe rfl (st_alloc tok rfl) ?_ | refine pe rfl (st_buildSlice tok rfl rfl rfl rfl rfl rfl rfl) ?_); rintro _ _ _ ⟨_, rfl, rfl, rfl⟩) | (refine prn_o0 rfl (sst tok rfl rfl rfl rfl rfl) (by decide +kernel) ?_; rintro _ _ _ ⟨rfl, rfl, rfl⟩; refine ⟨by (repeat (first | exact trivial | refine And.intro (pend_q rfl rfl rfl (qt_pev tok rfl)) ?_ | refine And.intro (pend_q rfl rfl rfl (ql tok rfl)) ?_)), ?_⟩) | ((first | refine po rfl (st_box rfl) ?_ | refine po rfl (st_alloc tok rfl) ?_ | refine po rfl (st_buildSlice tok rfl rfl rfl rfl rfl rfl rfl) ?_); rintro _ _ _ ⟨_, rfl, rfl, rfl⟩; refine ⟨by (repeat (first | exact trivial | refine And.intro (pend_q rfl rfl rfl (qt_pev tok rfl)) ?_ | refine And.intro (pend_q rfl rfl rfl (ql tok rfl)) ?_)), ?_⟩) | (refine pe rfl (qt_pev tok rfl) ?_; rintro _ _ _ ⟨rfl, rfl, rfl⟩))
    refine prn_o1 rfl (st_callF rfl (fun _ => tstep_ok _ _ bc cj (by omega))) (by decide +kernel) rfl rfl rfl ?_
    rintro _ M3 _ ⟨x, rfl, hxo, hxs, hM3, rfl⟩
    refine ⟨by (repeat (first | exact trivial | refine And.intro (pend_q rfl rfl rfl (qt_pev tok rfl)) ?_ | refine And.intro (pend_q rfl rfl rfl (ql tok rfl)) ?_)), ?_⟩
    repeat (first | with_reducible (first | refine cS ?_ | refine cR ?_ | refine cN ?_ | refine cK ?_ | refine cB ?_ | refine cI ?_) | refine cE rfl ?_ | refine rq (qt_pev tok rfl) ?_ | refine rg rfl rfl (qt_pev tok rfl) ?_ | refine rq (ql tok rfl) ?_ | refine rg rfl rfl (ql tok rfl) ?_ | (refine runL_op0 (sst tok rfl rfl rfl rfl rfl) ?_; rintro _ _ _ ⟨rfl, rfl, rfl⟩) | ((first | refine ro (st_box rfl) ?_ | refine ro (st_alloc tok rfl) ?_ | refine ro (st_buildSlice tok rfl rfl rfl rfl rfl rfl rfl) ?_); rintro _ _ _ ⟨_, rfl, rfl, rfl⟩) | refine prn_start mixed ?_ | refine prn_end (by decide +kernel) ?_ | refine pq rfl (qt_pev tok rfl) ?_ | refine pg rfl rfl rfl (qt_pev tok rfl) ?_ | refine pq rfl (ql tok rfl) ?_ | refine pg rfl rfl rfl (ql tok rfl) ?_ | (refine prn_e0 rfl (sst tok rfl rfl rfl rfl rfl) (by decide +kernel) ?_; rintro _ _ _ ⟨rfl, rfl, rfl⟩) | ((first | refine pe rfl (st_box rfl) ?_ | refine pe rfl (st_alloc tok rfl) ?_ | refine pe rfl (st_buildSlice tok rfl rfl rfl rfl rfl rfl rfl) ?_); rintro _ _ _ ⟨_, rfl, rfl, rfl⟩) | (refine prn_o0 rfl (sst tok rfl rfl rfl rfl rfl) (by decide +kernel) ?_; rintro _ _ _ ⟨rfl, rfl, rfl⟩; refine ⟨by (repeat (first | exact trivial | refine And.intro (pend_q rfl rfl rfl (qt_pev tok rfl)) ?_ | refine And.intro (pend_q rfl rfl rfl (ql tok rfl)) ?_)), ?_⟩) | ((first | refine po rfl (st_box rfl) ?_ | refine po rfl (st_alloc tok rfl) ?_ | refine po rfl (st_buildSlice tok rfl rfl rfl rfl rfl rfl rfl) ?_); rintro _ _ _ ⟨_, rfl, rfl, rfl⟩; refine ⟨by (repeat (first | exact trivial | refine And.intro (pend_q rfl rfl rfl (qt_pev tok rfl)) ?_ | refine And.intro (pend_q rfl rfl rfl (ql tok rfl)) ?_)), ?_⟩) | (refine pe rfl (qt_pev tok rfl) ?_; rintro _ _ _ ⟨rfl, rfl, rfl⟩))
    rename_i bn
    refine prn_o1 rfl (st_append (n := j) (m := 1) (news := srC x) tok rfl rfl rfl rfl rfl rfl rfl rfl (pm3 _ _ _ N _) hO (.inr ⟨bn, 0, 1, rfl, cellsAll List.mem_cons_self, rfl⟩) (srOne' _) (by omega) (by omega)) (by decide +kernel) rfl rfl rfl ?_
    rintro mv' _ _ ⟨N', rfl, rfl, hO'⟩
    obtain ⟨aa, ca, rfl⟩ := osSl hO'
    refine ⟨by (repeat (first | exact trivial | refine And.intro (pend_q rfl rfl rfl (qt_pev tok rfl)) ?_ | refine And.intro (pend_q rfl rfl rfl (ql tok rfl)) ?_)), ?_⟩
    repeat (first | with_reducible (first | refine cS ?_ | refine cR ?_ | refine cN ?_ | refine cK ?_ | refine cB ?_ | refine cI ?_) | refine cE rfl ?_ | refine rq (qt_pev tok rfl) ?_ | refine rg rfl rfl (qt_pev tok rfl) ?_ | refine rq (ql tok rfl) ?_ | refine rg rfl rfl (ql tok rfl) ?_ | (refine runL_op0 (sst tok rfl rfl rfl rfl rfl) ?_; rintro _ _ _ ⟨rfl, rfl, rfl⟩) | ((first | refine ro (st_box rfl) ?_ | refine ro (st_alloc tok rfl) ?_ | refine ro (st_buildSlice tok rfl rfl rfl rfl rfl rfl rfl) ?_); rintro _ _ _ ⟨_, rfl, rfl, rfl⟩) | refine prn_start mixed ?_ | refine prn_end (by decide +kernel) ?_ | refine pq rfl (qt_pev tok rfl) ?_ | refine pg rfl rfl rfl (qt_pev tok rfl) ?_ | refine pq rfl (ql tok rfl) ?_ | refine pg rfl rfl rfl (ql tok rfl) ?_ | (refine prn_e0 rfl (sst tok rfl rfl rfl rfl rfl) (by decide +kernel) ?_; rintro _ _ _ ⟨rfl, rfl, rfl⟩) | ((first | refine pe rfl (st_box rfl) ?_ | refine pe rfl (st_alloc tok rfl) ?_ | refine pe rfl (st_buildSlice tok rfl rfl rfl rfl rfl rfl rfl) ?_); rintro _ _ _ ⟨_, rfl, rfl, rfl⟩) | (refine prn_o0 rfl (sst tok rfl rfl rfl rfl rfl) (by decide +kernel) ?_; rintro _ _ _ ⟨rfl, rfl, rfl⟩; refine ⟨by (repeat (first | exact trivial | refine And.intro (pend_q rfl rfl rfl (qt_pev tok rfl)) ?_ | refine And.intro (pend_q rfl rfl rfl (ql tok rfl)) ?_)), ?_⟩) | ((first | refine po rfl (st_box rfl) ?_ | refine po rfl (st_alloc tok rfl) ?_ | refine po rfl (st_buildSlice tok rfl rfl rfl rfl rfl rfl rfl) ?_); rintro _ _ _ ⟨_, rfl, rfl, rfl⟩; refine ⟨by (repeat (first | exact trivial | refine And.intro (pend_q rfl rfl rfl (qt_pev tok rfl)) ?_ | refine And.intro (pend_q rfl rfl rfl (ql tok rfl)) ?_)), ?_⟩) | (refine pe rfl (qt_pev tok rfl) ?_; rintro _ _ _ ⟨rfl, rfl, rfl⟩))
    refine run_mem (fun _ h => (h.perm (pm3 _ _ _ N' _).symm).drop) (run_sub' (hnext _ _ _ ⟨by omega, Mem.le_trans hM2 hM3, hlt, xs ++ [x], (kSp cj).2, _, N', by simp [hxl], ?_, ?_, ?_, by rw [← srFlat]; exact hO', rfl, rfl⟩) ⟨lk_succ rfl (by omega), rfl, rfl, rfl, rfl, rfl, trivial⟩)
    · rw [hkj, ← hxs]
      simp
    · by_cases hb : (kSp cj).2.2 = true
      · have := e8 hb
        rw [if_pos hb]; omega
      · rw [if_neg hb]; omega
    · intro m hm
      rcases List.mem_append.1 hm with hm | hm
      · exact (hd m hm).le hM3
      · rw [List.mem_singleton.1 hm]; exact hxo
  rintro _ M3 _ ⟨ss, hM3, hss, hsp, rfl, rfl⟩
  have hfin : (bK (opK o 0 kN) fun vo => bK (opK au 0 kN) fun va => bK (opK n 0 kN) fun vn => bK (opK g [] kGives) fun vg => bK (opK t tz kTx) fun vt => bK (opK y false kY) fun vy => bK (opK s [] kSteps) fun vs => puK (⟨k, vo, va, vn, vg, vt, vy, vs⟩ : Aa)) c = (⟨k, vo, va, vn, vg, vx, vy, vs⟩, c7) := by
    simp only [bK, puK, h1, h2, h3, h4, h5, h6, h7]
  rw [hfin] at hC
  clear hfin
  repeat (first | with_reducible (first | refine cS ?_ | refine cR ?_ | refine cN ?_ | refine cK ?_ | refine cB ?_ | refine cI ?_) | refine cE rfl ?_ | refine rq (qt_pev tok rfl) ?_ | refine rg rfl rfl (qt_pev tok rfl) ?_ | refine rq (ql tok rfl) ?_ | refine rg rfl rfl (ql tok rfl) ?_ | (refine runL_op0 (sst tok rfl rfl rfl rfl rfl) ?_; rintro _ _ _ ⟨rfl, rfl, rfl⟩) | ((first | refine ro (st_box rfl) ?_ | refine ro (st_alloc tok rfl) ?_ | refine ro (st_buildSlice tok rfl rfl rfl rfl rfl rfl rfl) ?_); rintro _ _ _ ⟨_, rfl, rfl, rfl⟩))
  exact run_ret hC (rs := [.cell 4 37]) rfl (rl tok rfl resN) (fun _ h => (h.perm (tk4 _ _ _ _ _).symm).drop.drop.drop) ⟨⟨k, vo, va, vn, sm, vx, vy, ss⟩, rfl, ⟨hsm.le hM3, hss, fun m hm => by have := hsd m hm; omega⟩, by rw [← hsx, ← hsp]; rfl, Mem.le_trans hM1 hM3, rfl⟩
end Go.Proofs.Ytbpgiodfccijmaa
namespace Go.Proofs.Ytbpgiodfccijmaa
open Go.Chi

/-! ### the document's Front, Decode -/
theorem suf_at {p x : ByteArray} : (p ++ x).extract p.size (p ++ x).size = x := ext_right p x
theorem suf_rest {p x : ByteArray} (h : x.size ≠ 0) : (p ++ x).extract (p.size + 1) (p ++ x).size = rest1 x := by
  have h1 := ext_split x (n := 1) (by omega)
  have h2 : (x.extract 0 1).size = 1 := by simp; omega
  have h3 : p ++ x = (p ++ x.extract 0 1) ++ rest1 x := by
    rw [app_assoc]
    exact congrArg (fun z => p ++ z) h1
  have h4 := ext_right (p ++ x.extract 0 1) (rest1 x)
  rw [← h3, app_size, h2] at h4
  exact h4
theorem suf_byte {p x : ByteArray} : byte (p ++ x) p.size = byte x 0 := by
  have := byte_right p x 0
  rwa [Nat.add_zero] at this
/-- what the document's Front answers -/
def dfrontK (s : ByteArray) (M : Mem) (L : HL) (v : Value) (M' : Mem) (L' : HL) : Prop :=
  M.le M' ∧ L' = L ∧ ∃ (sx : SAx) (y : ByteArray), v = .tuple ⟨[sx.v, .int .i64 ((s.size - y.size : Nat) : Int)]⟩ ∧ SaOk M' sx ∧ Fr s (sx.xs.map Ax.aa) y ∧ y.size ≤ s.size
set_option maxRecDepth 10000 in
set_option maxHeartbeats 32000000 in
theorem dfront_ok (M : Mem) (L : HL) (s : ByteArray) (hs : s.size < 900000) : Tr Try.prog 16 [.string s] M L (dfrontK s M L) := by
  refine Tr.intro 49 Try.func16 rfl rfl Try.call16 rfl ?_
  intro C hC hro
  repeat (first | with_reducible (first | refine cS ?_ | refine cR ?_ | refine cN ?_ | refine cK ?_ | refine cB ?_ | refine cI ?_) | refine cE rfl ?_ | refine rq (qt_pev tok rfl) ?_ | refine rg rfl rfl (qt_pev tok rfl) ?_ | refine rq (ql tok rfl) ?_ | refine rg rfl rfl (ql tok rfl) ?_ | (refine runL_op0 (sst tok rfl rfl rfl rfl rfl) ?_; rintro _ _ _ ⟨rfl, rfl, rfl⟩) | ((first | refine ro (st_box rfl) ?_ | refine ro (st_alloc tok rfl) ?_ | refine ro (st_buildSlice tok rfl rfl rfl rfl rfl rfl rfl) ?_); rintro _ _ _ ⟨_, rfl, rfl, rfl⟩))
  refine run_loopN (fun j σ1 M2 L1 => j ≤ s.size ∧ ∃ (xs : List Ax) (p sj : ByteArray) (v : Value) (N : HL), xs.length = j ∧ s = p ++ sj ∧ j + sj.size ≤ s.size ∧ (∀ l y, Fr sj l y → Fr s (xs.map Ax.aa ++ l) y) ∧ M.le M2 ∧ (∀ x ∈ xs, AxOk M2 x) ∧ OS 37 10 v j (xs.map axC).flatten N ∧ L1 = N ++ L ∧ σ1 = [(5, .int .i64 (p.size : Int)), (4, v), (0, .string s)]) s.size [(5, .int .i64 ((0 : Nat) : Int)), (4, .slice none 0 0), (0, .string s)] ?_ ⟨Nat.zero_le _, [], bz, s, .slice none 0 0, [], rfl, (nil_app _).symm, by omega, (fun l y h => h), Mem.le_refl _, (fun x hx => by cases hx), OS.nil _ _, rfl, rfl⟩ (fun j _ _ _ h => h.1) ?_
  · exact ⟨rfl, rfl, rfl, trivial⟩
  rintro j _ M2 _ ⟨hj, xs, p, sj, v, N, hxl, hsp, hjs, hfr, hM2, haw, hO, rfl, rfl⟩ hnext
  have hpz : s.size = p.size + sj.size := by rw [hsp, app_size]
  have fin : ∀ y : ByteArray, y = sj → ((s.size - y.size : Nat) : Int) = (p.size : Int) := by rintro _ rfl; omega
  repeat (first | with_reducible (first | refine cS ?_ | refine cR ?_ | refine cN ?_ | refine cK ?_ | refine cB ?_ | refine cI ?_) | refine cE rfl ?_ | refine rq (qt_pev tok rfl) ?_ | refine rg rfl rfl (qt_pev tok rfl) ?_ | refine rq (ql tok rfl) ?_ | refine rg rfl rfl (ql tok rfl) ?_ | (refine runL_op0 (sst tok rfl rfl rfl rfl rfl) ?_; rintro _ _ _ ⟨rfl, rfl, rfl⟩) | ((first | refine ro (st_box rfl) ?_ | refine ro (st_alloc tok rfl) ?_ | refine ro (st_buildSlice tok rfl rfl rfl rfl rfl rfl rfl) ?_); rintro _ _ _ ⟨_, rfl, rfl, rfl⟩))
  refine run_cond rfl (fun h => ?_) (fun h => ?_)
  rotate_left
  · have h0 : sj.size = 0 := by simp at h; omega
    have hno : ∀ a x, ¬ One sj a x := fun a x hx => (one_iff.1 hx).1 h0
    clear hnext
    refine run_exit rfl ?_
    refine run_memE (fun M' L' => M2.le M' ∧ ∃ sa cp, v = .slice sa j cp ∧ SlM M' 10 sa j (xs.map axC) ∧ L' = L) (fun w hw => ?_) ?_
    · obtain ⟨M', a', c', h1, h2, h3, h4⟩ := hw.freezeOS hO (by simpa using hxl) (ax_all xs)
      exact ⟨M', _, h2, h1, a', c', h3, h4, rfl⟩
    rintro M4 _ ⟨hM4, sa, cp, rfl, hsl, rfl⟩
    repeat (first | with_reducible (first | refine cS ?_ | refine cR ?_ | refine cN ?_ | refine cK ?_ | refine cB ?_ | refine cI ?_) | refine cE rfl ?_ | refine rq (qt_pev tok rfl) ?_ | refine rg rfl rfl (qt_pev tok rfl) ?_ | refine rq (ql tok rfl) ?_ | refine rg rfl rfl (ql tok rfl) ?_ | (refine runL_op0 (sst tok rfl rfl rfl rfl rfl) ?_; rintro _ _ _ ⟨rfl, rfl, rfl⟩) | ((first | refine ro (st_box rfl) ?_ | refine ro (st_alloc tok rfl) ?_ | refine ro (st_buildSlice tok rfl rfl rfl rfl rfl rfl rfl) ?_); rintro _ _ _ ⟨_, rfl, rfl, rfl⟩))
    exact run_ret hC (rs := [.tmp 2, .tmp 3]) rfl (resT rfl (resT rfl resN)) (fun _ h => h) ⟨Mem.le_trans hM2 hM4, rfl, ⟨sa, j, cp, xs⟩, sj, by rw [fin sj rfl]; rfl, ⟨hsl, by show j < 1000000; omega, fun y hy => (haw y hy).le hM4⟩, by have := hfr [] sj (Fr.nil _ hno); rwa [List.append_nil] at this, by omega⟩
  have h0 : sj.size ≠ 0 := by simp at h; omega
  obtain ⟨b0, hb0, hb0'⟩ := byte_at (s := s) (i := p.size) (by omega)
  have hbyte : byte s p.size = byte sj 0 := by rw [hsp]; exact suf_byte
  have hrest : s.extract (p.size + 1) s.size = rest1 sj := by rw [hsp]; exact suf_rest h0
  rw [hbyte] at hb0'
  have hrz : (rest1 sj).size = sj.size - 1 := rest1_size
  have hat : IntKind.i64.wrap ((p.size : Int) + 1) = ((p.size + 1 : Nat) : Int) := by rw [show (p.size : Int) + 1 = ((p.size + 1 : Nat) : Int) by omega, wrap64_nat (by omega)]
  obtain ⟨o, au, n, g, t, y, st, hof, _, _, _, _, _, _, _⟩ := of_ex (byte sj 0)
  obtain ⟨A, x, fb, hK⟩ : ∃ (A : Aa) (x : ByteArray) (fb : Bool), kAct o au n g t y st (byte sj 0) (rest1 sj, true) = (A, (x, fb)) := ⟨_, _, _, rfl⟩
  have hAk : A.do_ = byte sj 0 := by
    have : (kAct o au n g t y st (byte sj 0) (rest1 sj, true)).1.do_ = byte sj 0 := rfl
    rwa [hK] at this
  have hact : ∀ (M : Mem) (L : HL) (bc : Nat), Tr Try.prog 34 [.pointer (some ⟨bc, 0, none⟩), .int .u8 (byte sj 0)] M (tkB bc (rest1 sj, true) :: L) (fun v M' L' => ∃ a : Ax, v = .agg ⟨axC a⟩ ∧ AxOk M' a ∧ a.aa = A ∧ M.le M' ∧ L' = tkB bc (x, fb) :: L) := fun M L bc => by
    have := tact_ok M L bc (rest1 sj, true) (byte sj 0) hof (by show (rest1 sj).size < _; omega)
    rwa [hK] at this
  have hno : ¬ (fb = true ∧ AcP A) → ∀ a' x', ¬ One sj a' x' := by
    intro hn a' x' ho
    obtain ⟨_, h2, _, h4⟩ := one_iff'.1 ho
    have hk := (gAct_back h4).1
    have hr := h2.do_
    have := (goodAct (by rw [← hk]; exact hr) hof).some_ h4
    rw [hK] at this
    obtain ⟨rfl, e2⟩ := Prod.mk.inj this
    obtain ⟨_, rfl⟩ := Prod.mk.inj e2
    exact hn ⟨rfl, h2⟩
  have hyes : fb = true → AcP A → ShortA A → One sj A x := by
    intro hf hp hsh
    have hr := hp.do_
    rw [hAk] at hr
    have hg := goodAct hr hof
    cases hq : gAct (byte sj 0) (rest1 sj) with
    | none =>
      have := hg.none_ hq
      rw [hK] at this
      simp only at this
      rw [hf] at this; cases this
    | some z =>
      obtain ⟨a', x'⟩ := z
      have := hg.some_ hq
      rw [hK] at this
      obtain ⟨rfl, e2⟩ := Prod.mk.inj this
      obtain ⟨rfl, _⟩ := Prod.mk.inj e2
      exact one_iff'.2 ⟨h0, hp, hsh, hq⟩
  clear hK
  obtain ⟨rm, hrm⟩ : ∃ rm : Bool, rm = true ↔ AcP A := by
    by_cases hq : AcP A
    · exact ⟨true, by simp [hq]⟩
    · exact ⟨false, by simp [hq]⟩
  repeat (first | with_reducible (first | refine cS ?_ | refine cR ?_ | refine cN ?_ | refine cK ?_ | refine cB ?_ | refine cI ?_) | refine cE rfl ?_ | refine rq (qt_pev tok rfl) ?_ | refine rg rfl rfl (qt_pev tok rfl) ?_ | refine rq (ql tok rfl) ?_ | refine rg rfl rfl (ql tok rfl) ?_ | (refine runL_op0 (sst tok rfl rfl rfl rfl rfl) ?_; rintro _ _ _ ⟨rfl, rfl, rfl⟩) | ((first | refine ro (st_box rfl) ?_ | refine ro (st_alloc tok rfl) ?_ | refine ro (st_buildSlice tok rfl rfl rfl rfl rfl rfl rfl) ?_); rintro _ _ _ ⟨_, rfl, rfl, rfl⟩))
  refine runL_as 14 (.int .i64 ((p.size + 1 : Nat) : Int)) rfl (by rw [hat]) ?_
  repeat (first | with_reducible (first | refine cS ?_ | refine cR ?_ | refine cN ?_ | refine cK ?_ | refine cB ?_ | refine cI ?_) | refine cE rfl ?_ | refine rq (qt_pev tok rfl) ?_ | refine rg rfl rfl (qt_pev tok rfl) ?_ | refine rq (ql tok rfl) ?_ | refine rg rfl rfl (ql tok rfl) ?_ | (refine runL_op0 (sst tok rfl rfl rfl rfl rfl) ?_; rintro _ _ _ ⟨rfl, rfl, rfl⟩) | ((first | refine ro (st_box rfl) ?_ | refine ro (st_alloc tok rfl) ?_ | refine ro (st_buildSlice tok rfl rfl rfl rfl rfl rfl rfl) ?_); rintro _ _ _ ⟨_, rfl, rfl, rfl⟩) | refine runL_q (Qt.as (v' := .string (rest1 sj)) (qt_strLo (n := p.size + 1) tok rfl rfl rfl (fun _ => by omega)) (by rw [hrest])) rfl rfl rfl ?_ | refine runL_q (Qt.as (v' := .int .u8 (byte sj 0)) (qt_strIndex (n := p.size) tok rfl rfl rfl (fun _ => hb0)) (by rw [hb0'])) rfl rfl rfl ?_ | refine runL_op (st_callF rfl (fun _ => hact _ _ _)) rfl rfl rfl ?_; rintro _ M3 _ ⟨a, rfl, hao, haa, hM3, rfl⟩)
  have hrm' : rm = true ↔ AcP a.aa := by rw [haa]; exact hrm
  repeat (first | with_reducible (first | refine cS ?_ | refine cR ?_ | refine cN ?_ | refine cK ?_ | refine cB ?_ | refine cI ?_) | refine cE rfl ?_ | refine rq (qt_pev tok rfl) ?_ | refine rg rfl rfl (qt_pev tok rfl) ?_ | refine rq (ql tok rfl) ?_ | refine rg rfl rfl (ql tok rfl) ?_ | (refine runL_op0 (sst tok rfl rfl rfl rfl rfl) ?_; rintro _ _ _ ⟨rfl, rfl, rfl⟩) | ((first | refine ro (st_box rfl) ?_ | refine ro (st_alloc tok rfl) ?_ | refine ro (st_buildSlice tok rfl rfl rfl rfl rfl rfl rfl) ?_); rintro _ _ _ ⟨_, rfl, rfl, rfl⟩) | refine runL_g rfl rfl (qt_callF rfl (fun _ => refMay_ok _ _ a hao rm hrm')) rfl rfl rfl rfl rfl ?_)
  refine run_cond rfl (fun h => ?_) (fun h => ?_)
  · have h' : ((!fb) || !rm) = true := h
    have hno' := hno (fun q => by rw [q.1, hrm.2 q.2] at h'; cases h')
    clear hnext
    refine run_mem (fun _ h => h.drop.drop) ?_
    refine run_memE (fun M' L' => M3.le M' ∧ ∃ sa cp, v = .slice sa j cp ∧ SlM M' 10 sa j (xs.map axC) ∧ L' = L) (fun w hw => ?_) ?_
    · obtain ⟨M', a', c', h1, h2, h3, h4⟩ := hw.freezeOS hO (by simpa using hxl) (ax_all xs)
      exact ⟨M', _, h2, h1, a', c', h3, h4, rfl⟩
    rintro M4 _ ⟨hM4, sa, cp, rfl, hsl, rfl⟩
    repeat (first | with_reducible (first | refine cS ?_ | refine cR ?_ | refine cN ?_ | refine cK ?_ | refine cB ?_ | refine cI ?_) | refine cE rfl ?_ | refine rq (qt_pev tok rfl) ?_ | refine rg rfl rfl (qt_pev tok rfl) ?_ | refine rq (ql tok rfl) ?_ | refine rg rfl rfl (ql tok rfl) ?_ | (refine runL_op0 (sst tok rfl rfl rfl rfl rfl) ?_; rintro _ _ _ ⟨rfl, rfl, rfl⟩) | ((first | refine ro (st_box rfl) ?_ | refine ro (st_alloc tok rfl) ?_ | refine ro (st_buildSlice tok rfl rfl rfl rfl rfl rfl rfl) ?_); rintro _ _ _ ⟨_, rfl, rfl, rfl⟩))
    exact run_ret hC (rs := [.tmp 2, .tmp 3]) rfl (resT rfl (resT rfl resN)) (fun _ h => h) ⟨Mem.le_trans hM2 (Mem.le_trans hM3 hM4), rfl, ⟨sa, j, cp, xs⟩, sj, by rw [fin sj rfl]; rfl, ⟨hsl, by show j < 1000000; omega, fun y hy => (haw y hy).le (Mem.le_trans hM3 hM4)⟩, by have := hfr [] sj (Fr.nil _ hno'); rwa [List.append_nil] at this, by omega⟩
  have h' : ((!fb) || !rm) = false := h
  simp only [Bool.or_eq_false_iff, Bool.not_eq_false'] at h'
  obtain ⟨hf1, hr1⟩ := h'
  have hAp : AcP A := hrm.1 hr1
  have hone : One sj A x := hyes hf1 hAp (shortA hAp (fun m hm => by
    have := hao.pay m (by rw [← haa] at hm; exact hm); omega))
  have hsx : s = (p ++ actB A) ++ x := by rw [app_assoc, ← hone.2.2]; exact hsp
  have hszx : s.size = (p ++ actB A).size + x.size := by rw [hsx, app_size]
  have hsz : x.size < sj.size := by
    have := hone.2.2
    rw [this, app_size, actB_size]; omega
  have e1 : IntKind.i64.wrap ((s.size : Int) - (x.size : Int)) = ((p ++ actB A).size : Int) := by
    rw [show (s.size : Int) - (x.size : Int) = (((p ++ actB A).size : Nat) : Int) by omega, wrap64_nat (by omega)]
  refine run_skip ?_
  repeat (first | with_reducible (first | refine cS ?_ | refine cR ?_ | refine cN ?_ | refine cK ?_ | refine cB ?_ | refine cI ?_) | refine cE rfl ?_ | refine rq (qt_pev tok rfl) ?_ | refine rg rfl rfl (qt_pev tok rfl) ?_ | refine rq (ql tok rfl) ?_ | refine rg rfl rfl (ql tok rfl) ?_ | (refine runL_op0 (sst tok rfl rfl rfl rfl rfl) ?_; rintro _ _ _ ⟨rfl, rfl, rfl⟩) | ((first | refine ro (st_box rfl) ?_ | refine ro (st_alloc tok rfl) ?_ | refine ro (st_buildSlice tok rfl rfl rfl rfl rfl rfl rfl) ?_); rintro _ _ _ ⟨_, rfl, rfl, rfl⟩))
  refine runL_op (st_append (n := j) (m := 1) (news := axC a) tok rfl rfl rfl rfl rfl rfl rfl rfl (pm3 _ _ _ N _) hO (.inr ⟨_, 0, 1, rfl, cellsAll List.mem_cons_self, rfl⟩) (axOne a) (by omega) (by omega)) rfl rfl rfl ?_
  rintro v2 _ _ ⟨N', rfl, rfl, hO'⟩
  refine runL_mem (fun _ h => h.perm (pm3 _ _ _ N' _).symm) ?_
  repeat (first | with_reducible (first | refine cS ?_ | refine cR ?_ | refine cN ?_ | refine cK ?_ | refine cB ?_ | refine cI ?_) | refine cE rfl ?_ | refine rq (qt_pev tok rfl) ?_ | refine rg rfl rfl (qt_pev tok rfl) ?_ | refine rq (ql tok rfl) ?_ | refine rg rfl rfl (ql tok rfl) ?_ | (refine runL_op0 (sst tok rfl rfl rfl rfl rfl) ?_; rintro _ _ _ ⟨rfl, rfl, rfl⟩) | ((first | refine ro (st_box rfl) ?_ | refine ro (st_alloc tok rfl) ?_ | refine ro (st_buildSlice tok rfl rfl rfl rfl rfl rfl rfl) ?_); rintro _ _ _ ⟨_, rfl, rfl, rfl⟩))
  refine run_mem (fun _ h => h.drop.drop.drop) ?_
  refine run_sub' (hnext _ _ _ ⟨by omega, xs ++ [a], p ++ actB A, x, v2, N', by simp [hxl], hsx, by omega, ?_, Mem.le_trans hM2 hM3, ?_, by rw [← axFlat]; exact hO', rfl, rfl⟩) ⟨by rw [e1]; rfl, rfl, rfl, trivial⟩
  · intro l y hl
    rw [List.map_append, List.append_assoc]
    exact hfr (a.aa :: l) y (by rw [haa]; exact Fr.cons _ _ _ _ _ hone hl)
  · intro y hy
    rcases List.mem_append.1 hy with hy | hy
    · exact (haw y hy).le hM3
    · rw [List.mem_singleton.1 hy]; exact hao
/-- what the document's Decode answers -/
def ddecK (s : ByteArray) (M : Mem) (L : HL) (v : Value) (M' : Mem) (L' : HL) : Prop :=
  M.le M' ∧ L' = L ∧ ∃ (sx : SAx) (e : Int), v = .tuple ⟨[sx.v, .int .i64 e]⟩ ∧ SaOk M' sx ∧ ((e = 5 ∧ sx.xs = [] ∧ 65536 < s.size) ∨ (s.size ≤ 65536 ∧ ∃ l y, Fr s l y ∧ ((e = 7 ∧ sx.xs = [] ∧ y.size ≠ 0) ∨ (e = 0 ∧ y.size = 0 ∧ sx.xs.map Ax.aa = l))))
set_option maxRecDepth 10000 in
set_option maxHeartbeats 16000000 in
theorem ddecode_ok (M : Mem) (L : HL) (s : ByteArray) : Tr Try.prog 18 [.string s] M L (ddecK s M L) := by
  have hnil : ∀ M' : Mem, SaOk M' ⟨none, 0, 0, []⟩ := fun M' => ⟨SlM.nil _ _ _, by show 0 < 1000000; decide, fun x hx => by cases hx⟩
  refine Tr.intro 19 Try.func18 rfl rfl Try.call18 rfl ?_
  intro C hC hro
  repeat (first | with_reducible (first | refine cS ?_ | refine cR ?_ | refine cN ?_ | refine cK ?_ | refine cB ?_ | refine cI ?_) | refine cE rfl ?_ | refine rq (qt_pev tok rfl) ?_ | refine rg rfl rfl (qt_pev tok rfl) ?_ | refine rq (ql tok rfl) ?_ | refine rg rfl rfl (ql tok rfl) ?_ | (refine runL_op0 (sst tok rfl rfl rfl rfl rfl) ?_; rintro _ _ _ ⟨rfl, rfl, rfl⟩) | ((first | refine ro (st_box rfl) ?_ | refine ro (st_alloc tok rfl) ?_ | refine ro (st_buildSlice tok rfl rfl rfl rfl rfl rfl rfl) ?_); rintro _ _ _ ⟨_, rfl, rfl, rfl⟩))
  refine run_cond rfl (fun h => ?_) (fun h => ?_)
  · have h1 : 65536 < s.size := by have := of_decide_eq_true h; omega
    repeat (first | with_reducible (first | refine cS ?_ | refine cR ?_ | refine cN ?_ | refine cK ?_ | refine cB ?_ | refine cI ?_) | refine cE rfl ?_ | refine rq (qt_pev tok rfl) ?_ | refine rg rfl rfl (qt_pev tok rfl) ?_ | refine rq (ql tok rfl) ?_ | refine rg rfl rfl (ql tok rfl) ?_ | (refine runL_op0 (sst tok rfl rfl rfl rfl rfl) ?_; rintro _ _ _ ⟨rfl, rfl, rfl⟩) | ((first | refine ro (st_box rfl) ?_ | refine ro (st_alloc tok rfl) ?_ | refine ro (st_buildSlice tok rfl rfl rfl rfl rfl rfl rfl) ?_); rintro _ _ _ ⟨_, rfl, rfl, rfl⟩))
    exact run_ret hC (rs := [.tmp 2, .tmp 3]) rfl (resT rfl (resT rfl resN)) (fun _ h => h) ⟨Mem.le_refl _, rfl, ⟨none, 0, 0, []⟩, 5, rfl, hnil _, .inl ⟨rfl, rfl, h1⟩⟩
  have h1 : s.size ≤ 65536 := by have := of_decide_eq_false h; omega
  repeat (first | with_reducible (first | refine cS ?_ | refine cR ?_ | refine cN ?_ | refine cK ?_ | refine cB ?_ | refine cI ?_) | refine cE rfl ?_ | refine rq (qt_pev tok rfl) ?_ | refine rg rfl rfl (qt_pev tok rfl) ?_ | refine rq (ql tok rfl) ?_ | refine rg rfl rfl (ql tok rfl) ?_ | (refine runL_op0 (sst tok rfl rfl rfl rfl rfl) ?_; rintro _ _ _ ⟨rfl, rfl, rfl⟩) | ((first | refine ro (st_box rfl) ?_ | refine ro (st_alloc tok rfl) ?_ | refine ro (st_buildSlice tok rfl rfl rfl rfl rfl rfl rfl) ?_); rintro _ _ _ ⟨_, rfl, rfl, rfl⟩) | refine runL_op (st_callF rfl (fun _ => dfront_ok M _ s (by omega))) rfl rfl rfl ?_; rintro _ M1 _ ⟨hM1, rfl, sx, y, rfl, hsx, hfr, hy⟩)
  refine run_cond rfl (fun h => ?_) (fun h => ?_)
  · have h2 : y.size ≠ 0 := by simp at h; omega
    repeat (first | with_reducible (first | refine cS ?_ | refine cR ?_ | refine cN ?_ | refine cK ?_ | refine cB ?_ | refine cI ?_) | refine cE rfl ?_ | refine rq (qt_pev tok rfl) ?_ | refine rg rfl rfl (qt_pev tok rfl) ?_ | refine rq (ql tok rfl) ?_ | refine rg rfl rfl (ql tok rfl) ?_ | (refine runL_op0 (sst tok rfl rfl rfl rfl rfl) ?_; rintro _ _ _ ⟨rfl, rfl, rfl⟩) | ((first | refine ro (st_box rfl) ?_ | refine ro (st_alloc tok rfl) ?_ | refine ro (st_buildSlice tok rfl rfl rfl rfl rfl rfl rfl) ?_); rintro _ _ _ ⟨_, rfl, rfl, rfl⟩))
    exact run_ret hC (rs := [.tmp 2, .tmp 3]) rfl (resT rfl (resT rfl resN)) (fun _ h => h) ⟨hM1, rfl, ⟨none, 0, 0, []⟩, 7, rfl, hnil _, .inr ⟨h1, _, y, hfr, .inl ⟨rfl, rfl, h2⟩⟩⟩
  · have h2 : y.size = 0 := by simp at h; omega
    repeat (first | with_reducible (first | refine cS ?_ | refine cR ?_ | refine cN ?_ | refine cK ?_ | refine cB ?_ | refine cI ?_) | refine cE rfl ?_ | refine rq (qt_pev tok rfl) ?_ | refine rg rfl rfl (qt_pev tok rfl) ?_ | refine rq (ql tok rfl) ?_ | refine rg rfl rfl (ql tok rfl) ?_ | (refine runL_op0 (sst tok rfl rfl rfl rfl rfl) ?_; rintro _ _ _ ⟨rfl, rfl, rfl⟩) | ((first | refine ro (st_box rfl) ?_ | refine ro (st_alloc tok rfl) ?_ | refine ro (st_buildSlice tok rfl rfl rfl rfl rfl rfl rfl) ?_); rintro _ _ _ ⟨_, rfl, rfl, rfl⟩))
    exact run_ret hC (rs := [.tmp 2, .tmp 3]) rfl (resT rfl (resT rfl resN)) (fun _ h => h) ⟨hM1, rfl, sx, 0, rfl, hsx, .inr ⟨h1, _, y, hfr, .inr ⟨rfl, h2, rfl⟩⟩⟩
end Go.Proofs.Ytbpgiodfccijmaa
namespace Go.Proofs.Ytbpgiodfccijmaa
open Go.Chi

/-! ### the walks of chapter 32 -/
set_option maxRecDepth 10000 in
set_option maxHeartbeats 16000000 in
theorem scriptReads_ok (M : Mem) (L : HL) (s : ByteArray) : Tr Try.prog 4 [.string s] M L (fun v M' L' => v = .bool true ∧ M.le M' ∧ L = L') := by
  refine Tr.intro 56 Try.func4 rfl rfl Try.call4 rfl ?_
  intro C hC hro
  repeat (first | with_reducible (first | refine cS ?_ | refine cR ?_ | refine cN ?_ | refine cK ?_ | refine cB ?_ | refine cI ?_) | refine cE rfl ?_ | refine rq (qt_pev tok rfl) ?_ | refine rg rfl rfl (qt_pev tok rfl) ?_ | refine rq (ql tok rfl) ?_ | refine rg rfl rfl (ql tok rfl) ?_ | (refine runL_op0 (sst tok rfl rfl rfl rfl rfl) ?_; rintro _ _ _ ⟨rfl, rfl, rfl⟩) | ((first | refine ro (st_box rfl) ?_ | refine ro (st_alloc tok rfl) ?_ | refine ro (st_buildSlice tok rfl rfl rfl rfl rfl rfl rfl) ?_); rintro _ _ _ ⟨_, rfl, rfl, rfl⟩))
  refine run_cond rfl (fun h => ?_) (fun h => ?_)
  · repeat (first | with_reducible (first | refine cS ?_ | refine cR ?_ | refine cN ?_ | refine cK ?_ | refine cB ?_ | refine cI ?_) | refine cE rfl ?_ | refine rq (qt_pev tok rfl) ?_ | refine rg rfl rfl (qt_pev tok rfl) ?_ | refine rq (ql tok rfl) ?_ | refine rg rfl rfl (ql tok rfl) ?_ | (refine runL_op0 (sst tok rfl rfl rfl rfl rfl) ?_; rintro _ _ _ ⟨rfl, rfl, rfl⟩) | ((first | refine ro (st_box rfl) ?_ | refine ro (st_alloc tok rfl) ?_ | refine ro (st_buildSlice tok rfl rfl rfl rfl rfl rfl rfl) ?_); rintro _ _ _ ⟨_, rfl, rfl, rfl⟩) | refine runL_op (st_callF rfl (fun _ => salive_ok _ _)) rfl rfl rfl ?_; rintro _ M1 _ ⟨rfl, hM1, rfl⟩)
    exact run_ret hC (rs := [.tmp 2]) rfl (resT rfl resN) (fun _ h => h) ⟨rfl, hM1, rfl⟩
  have hs : s.size ≤ 16384 := by have := of_decide_eq_false h; omega
  refine run_skip ?_
  repeat (first | with_reducible (first | refine cS ?_ | refine cR ?_ | refine cN ?_ | refine cK ?_ | refine cB ?_ | refine cI ?_) | refine cE rfl ?_ | refine rq (qt_pev tok rfl) ?_ | refine rg rfl rfl (qt_pev tok rfl) ?_ | refine rq (ql tok rfl) ?_ | refine rg rfl rfl (ql tok rfl) ?_ | (refine runL_op0 (sst tok rfl rfl rfl rfl rfl) ?_; rintro _ _ _ ⟨rfl, rfl, rfl⟩) | ((first | refine ro (st_box rfl) ?_ | refine ro (st_alloc tok rfl) ?_ | refine ro (st_buildSlice tok rfl rfl rfl rfl rfl rfl rfl) ?_); rintro _ _ _ ⟨_, rfl, rfl, rfl⟩) | refine runL_op (st_callF rfl (fun _ => sfront_ok _ _ s (by omega))) rfl rfl rfl ?_; rintro _ M1 _ ⟨hM1, rfl, a1, y1, rfl, ha1, hf1, hy1⟩ | refine runL_op (st_callF rfl (fun _ => dfront_ok _ _ s (by omega))) rfl rfl rfl ?_; rintro _ M2 _ ⟨hM2, rfl, a2, y2, rfl, ha2, hf2, hy2⟩ | refine runL_op (st_callF rfl (fun _ => sdecode_ok _ _ s (by omega))) rfl rfl rfl ?_; rintro _ M3 _ ⟨hM3, rfl, a3, e3, rfl, ha3, hd3⟩ | refine runL_op (st_callF rfl (fun _ => ddecode_ok _ _ s)) rfl rfl rfl ?_; rintro _ M4 _ ⟨hM4, rfl, a4, e4, rfl, ha4, hd4⟩)
  obtain ⟨h12, rfl⟩ := hf1.uniq hf2
  have h34 : a3.xs.map Ax.aa = a4.xs.map Ax.aa ∧ e3 = e4 := by
    rcases hd3 with ⟨_, _, q⟩ | ⟨_, l, y, hf, q⟩
    · omega
    rcases hd4 with ⟨_, _, q'⟩ | ⟨_, l', y', hf', q'⟩
    · omega
    obtain ⟨rfl, rfl⟩ := hf.uniq hf'
    rcases q with ⟨r1, r2, r3⟩ | ⟨r1, r2, r3⟩ <;> rcases q' with ⟨r1', r2', r3'⟩ | ⟨r1', r2', r3'⟩
    · exact ⟨by rw [r2, r2'], by rw [r1, r1']⟩
    · exact absurd r2' r3
    · exact absurd r2 r3'
    · exact ⟨by rw [r3, r3'], by rw [r1, r1']⟩
  have ok1 := ha1.ok.le (Mem.le_trans hM2 (Mem.le_trans hM3 hM4))
  have ok2 := ha2.le (Mem.le_trans hM3 hM4)
  have ok3 := ha3.ok.le hM4
  repeat (first | with_reducible (first | refine cS ?_ | refine cR ?_ | refine cN ?_ | refine cK ?_ | refine cB ?_ | refine cI ?_) | refine cE rfl ?_ | refine rq (qt_pev tok rfl) ?_ | refine rg rfl rfl (qt_pev tok rfl) ?_ | refine rq (ql tok rfl) ?_ | refine rg rfl rfl (ql tok rfl) ?_ | (refine runL_op0 (sst tok rfl rfl rfl rfl rfl) ?_; rintro _ _ _ ⟨rfl, rfl, rfl⟩) | ((first | refine ro (st_box rfl) ?_ | refine ro (st_alloc tok rfl) ?_ | refine ro (st_buildSlice tok rfl rfl rfl rfl rfl rfl rfl) ?_); rintro _ _ _ ⟨_, rfl, rfl, rfl⟩) | refine runL_q (qt_callF rfl (fun _ => refSame_ok _ _ a1 a2 ok1 ok2 true (by simp [h12]))) rfl rfl rfl ?_ | refine runL_g rfl rfl (qt_callF rfl (fun _ => refSame_ok _ _ a3 a4 ok3 ha4 true (by simp [h34.1]))) rfl rfl rfl rfl rfl ?_)
  refine runL_as 53 (.bool true) rfl (by
    show Value.bool (((true && (((s.size - y1.size : Nat) : Int) == ((s.size - y1.size : Nat) : Int))) && true) && (e3 == e4)) = _
    rw [h34.2]; simp) ?_
  refine runL_gT rfl rfl (st_callF rfl (fun _ => salive_ok _ _)) rfl rfl rfl ?_
  rintro _ M5 _ ⟨rfl, hM5, rfl⟩
  repeat (first | with_reducible (first | refine cS ?_ | refine cR ?_ | refine cN ?_ | refine cK ?_ | refine cB ?_ | refine cI ?_) | refine cE rfl ?_ | refine rq (qt_pev tok rfl) ?_ | refine rg rfl rfl (qt_pev tok rfl) ?_ | refine rq (ql tok rfl) ?_ | refine rg rfl rfl (ql tok rfl) ?_ | (refine runL_op0 (sst tok rfl rfl rfl rfl rfl) ?_; rintro _ _ _ ⟨rfl, rfl, rfl⟩) | ((first | refine ro (st_box rfl) ?_ | refine ro (st_alloc tok rfl) ?_ | refine ro (st_buildSlice tok rfl rfl rfl rfl rfl rfl rfl) ?_); rintro _ _ _ ⟨_, rfl, rfl, rfl⟩))
  exact run_ret hC (rs := [.tmp 2]) rfl (resT rfl resN) (fun _ h => h) ⟨rfl, Mem.le_trans hM1 (Mem.le_trans hM2 (Mem.le_trans hM3 (Mem.le_trans hM4 hM5))), rfl⟩
set_option maxRecDepth 10000 in
set_option maxHeartbeats 16000000 in
theorem scriptTells_ok (M : Mem) (L : HL) (s : SAx) (hi : SaIn M s) : Tr Try.prog 3 [s.v] M L (fun v M' L' => v = .bool true ∧ M.le M' ∧ L = L') := by
  refine Tr.intro 67 Try.func3 rfl rfl Try.call3 rfl ?_
  intro C hC hro
  repeat (first | with_reducible (first | refine cS ?_ | refine cR ?_ | refine cN ?_ | refine cK ?_ | refine cB ?_ | refine cI ?_) | refine cE rfl ?_ | refine rq (qt_pev tok rfl) ?_ | refine rg rfl rfl (qt_pev tok rfl) ?_ | refine rq (ql tok rfl) ?_ | refine rg rfl rfl (ql tok rfl) ?_ | (refine runL_op0 (sst tok rfl rfl rfl rfl rfl) ?_; rintro _ _ _ ⟨rfl, rfl, rfl⟩) | ((first | refine ro (st_box rfl) ?_ | refine ro (st_alloc tok rfl) ?_ | refine ro (st_buildSlice tok rfl rfl rfl rfl rfl rfl rfl) ?_); rintro _ _ _ ⟨_, rfl, rfl, rfl⟩) | refine runL_op (st_callF rfl (fun _ => slong_ok _ _ s hi)) rfl rfl rfl ?_; rintro _ _ _ ⟨rfl, rfl, lg, rfl, hlg⟩)
  refine run_cond rfl (fun h => ?_) (fun h => ?_)
  · repeat (first | with_reducible (first | refine cS ?_ | refine cR ?_ | refine cN ?_ | refine cK ?_ | refine cB ?_ | refine cI ?_) | refine cE rfl ?_ | refine rq (qt_pev tok rfl) ?_ | refine rg rfl rfl (qt_pev tok rfl) ?_ | refine rq (ql tok rfl) ?_ | refine rg rfl rfl (ql tok rfl) ?_ | (refine runL_op0 (sst tok rfl rfl rfl rfl rfl) ?_; rintro _ _ _ ⟨rfl, rfl, rfl⟩) | ((first | refine ro (st_box rfl) ?_ | refine ro (st_alloc tok rfl) ?_ | refine ro (st_buildSlice tok rfl rfl rfl rfl rfl rfl rfl) ?_); rintro _ _ _ ⟨_, rfl, rfl, rfl⟩) | refine runL_op (st_callF rfl (fun _ => salive_ok _ _)) rfl rfl rfl ?_; rintro _ M1 _ ⟨rfl, hM1, rfl⟩)
    exact run_ret hC (rs := [.tmp 2]) rfl (resT rfl resN) (fun _ h => h) ⟨rfl, hM1, rfl⟩
  have hok := hi.ok (hlg h)
  refine run_skip ?_
  repeat (first | with_reducible (first | refine cS ?_ | refine cR ?_ | refine cN ?_ | refine cK ?_ | refine cB ?_ | refine cI ?_) | refine cE rfl ?_ | refine rq (qt_pev tok rfl) ?_ | refine rg rfl rfl (qt_pev tok rfl) ?_ | refine rq (ql tok rfl) ?_ | refine rg rfl rfl (ql tok rfl) ?_ | (refine runL_op0 (sst tok rfl rfl rfl rfl rfl) ?_; rintro _ _ _ ⟨rfl, rfl, rfl⟩) | ((first | refine ro (st_box rfl) ?_ | refine ro (st_alloc tok rfl) ?_ | refine ro (st_buildSlice tok rfl rfl rfl rfl rfl rfl rfl) ?_); rintro _ _ _ ⟨_, rfl, rfl, rfl⟩) | refine runL_op (st_callF rfl (fun _ => sown_ok _ _ s hok)) rfl rfl rfl ?_; rintro _ M1 _ ⟨hM1, rfl, s', rfl, haa, hsw⟩ | refine runL_op (st_callF rfl (fun _ => sencode_ok _ _ s' hsw)) rfl rfl rfl ?_; rintro _ M2 _ ⟨rfl, hM2, rfl⟩)
  have hM02 := Mem.le_trans hM1 hM2
  have ok2 := hok.le hM02
  have ok2' := hsw.ok.le hM2
  have hE : encA s'.xs = encA s.xs := encA_same haa ok2'.iffA ok2.iffA
  repeat (first | with_reducible (first | refine cS ?_ | refine cR ?_ | refine cN ?_ | refine cK ?_ | refine cB ?_ | refine cI ?_) | refine cE rfl ?_ | refine rq (qt_pev tok rfl) ?_ | refine rg rfl rfl (qt_pev tok rfl) ?_ | refine rq (ql tok rfl) ?_ | refine rg rfl rfl (ql tok rfl) ?_ | (refine runL_op0 (sst tok rfl rfl rfl rfl rfl) ?_; rintro _ _ _ ⟨rfl, rfl, rfl⟩) | ((first | refine ro (st_box rfl) ?_ | refine ro (st_alloc tok rfl) ?_ | refine ro (st_buildSlice tok rfl rfl rfl rfl rfl rfl rfl) ?_); rintro _ _ _ ⟨_, rfl, rfl, rfl⟩) | refine runL_q (qt_callF rfl (fun _ => dencode_ok _ _ s ok2)) rfl rfl rfl ?_ | refine runL_g rfl rfl (qt_callF rfl (fun _ => refSame_ok _ _ s' s ok2' ok2 true (by simp [haa]))) rfl rfl rfl rfl rfl ?_)
  refine run_cond rfl (fun h => ?_) (fun h => ?_)
  · exfalso
    have h' : (((!((encA s'.xs).1.toList == (encA s.xs).1.toList)) || ((encA s'.xs).2 != (encA s.xs).2)) || !true) = true := h
    rw [hE] at h'
    simp at h'
  clear h
  have hlen := hok.len
  obtain ⟨sa, len, cap, xs⟩ := s
  simp only [SAx.v] at *
  refine run_skip ?_
  repeat (first | with_reducible (first | refine cS ?_ | refine cR ?_ | refine cN ?_ | refine cK ?_ | refine cB ?_ | refine cI ?_) | refine cE rfl ?_ | refine rq (qt_pev tok rfl) ?_ | refine rg rfl rfl (qt_pev tok rfl) ?_ | refine rq (ql tok rfl) ?_ | refine rg rfl rfl (ql tok rfl) ?_ | (refine runL_op0 (sst tok rfl rfl rfl rfl rfl) ?_; rintro _ _ _ ⟨rfl, rfl, rfl⟩) | ((first | refine ro (st_box rfl) ?_ | refine ro (st_alloc tok rfl) ?_ | refine ro (st_buildSlice tok rfl rfl rfl rfl rfl rfl rfl) ?_); rintro _ _ _ ⟨_, rfl, rfl, rfl⟩))
  refine run_loopN (fun j σ1 M3 L1 => j ≤ len ∧ M2 = M3 ∧ (_ : HL) = L1 ∧ σ1 = [(8, .int .i64 (j : Int)), (0, .slice sa len cap)]) len [(8, .int .i64 ((0 : Nat) : Int)), (0, .slice sa len cap)] ?_ ⟨Nat.zero_le _, rfl, rfl, rfl⟩ (fun j _ _ _ h => h.1) ?_
  · exact ⟨rfl, rfl, trivial⟩
  rintro j _ _ _ ⟨hj, rfl, rfl, rfl⟩ hnext
  repeat (first | with_reducible (first | refine cS ?_ | refine cR ?_ | refine cN ?_ | refine cK ?_ | refine cB ?_ | refine cI ?_) | refine cE rfl ?_ | refine rq (qt_pev tok rfl) ?_ | refine rg rfl rfl (qt_pev tok rfl) ?_ | refine rq (ql tok rfl) ?_ | refine rg rfl rfl (ql tok rfl) ?_ | (refine runL_op0 (sst tok rfl rfl rfl rfl rfl) ?_; rintro _ _ _ ⟨rfl, rfl, rfl⟩) | ((first | refine ro (st_box rfl) ?_ | refine ro (st_alloc tok rfl) ?_ | refine ro (st_buildSlice tok rfl rfl rfl rfl rfl rfl rfl) ?_); rintro _ _ _ ⟨_, rfl, rfl, rfl⟩))
  refine run_cond rfl (fun h => ?_) (fun h => ?_)
  · have hlt : j < len := by simpa using h
    obtain ⟨b, off, x, rfl, hx, hcells⟩ := SAx.at_ ok2.sl hlt
    have hxo := ok2.each x (List.mem_of_getElem? hx)
    have hrm : decide (chkA x = 0) = true ↔ AcP x.aa := by rw [decide_eq_true_eq]; exact hxo.iff
    repeat (first | with_reducible (first | refine cS ?_ | refine cR ?_ | refine cN ?_ | refine cK ?_ | refine cB ?_ | refine cI ?_) | refine cE rfl ?_ | refine rq (qt_pev tok rfl) ?_ | refine rg rfl rfl (qt_pev tok rfl) ?_ | refine rq (ql tok rfl) ?_ | refine rg rfl rfl (ql tok rfl) ?_ | (refine runL_op0 (sst tok rfl rfl rfl rfl rfl) ?_; rintro _ _ _ ⟨rfl, rfl, rfl⟩) | ((first | refine ro (st_box rfl) ?_ | refine ro (st_alloc tok rfl) ?_ | refine ro (st_buildSlice tok rfl rfl rfl rfl rfl rfl rfl) ?_); rintro _ _ _ ⟨_, rfl, rfl, rfl⟩) | refine runL_q (qt_indexN tok rfl rfl rfl rfl (fun _ => by omega)) rfl rfl rfl ?_ | refine runL_g rfl rfl (qt_indexN tok rfl rfl rfl rfl (fun _ => by omega)) rfl rfl rfl rfl rfl ?_ | refine runL_q (qt_ldM tok rfl hcells rfl) rfl rfl rfl ?_ | refine runL_g rfl rfl (qt_ldM tok rfl hcells rfl) rfl rfl rfl rfl rfl ?_ | refine runL_q (qt_ldM0 tok rfl hcells rfl) rfl rfl rfl ?_ | refine runL_g rfl rfl (qt_ldM0 tok rfl hcells rfl) rfl rfl rfl rfl rfl ?_ | refine runL_q (qt_callF rfl (fun _ => scheck_ok _ _ x hxo)) rfl rfl rfl ?_ | refine runL_q (qt_callF rfl (fun _ => refMay_ok _ _ x hxo _ hrm)) rfl rfl rfl ?_)
    refine run_cond rfl (fun h => ?_) (fun h => ?_)
    · exfalso
      have h' : (((chkA x == 0) != decide (chkA x = 0)) || ((chkA x != 0) && (chkA x != 2))) = true := h
      rcases chkA_02 x with q | q <;> rw [q] at h' <;> simp at h'
    · refine run_skip ?_
      repeat (first | with_reducible (first | refine cS ?_ | refine cR ?_ | refine cN ?_ | refine cK ?_ | refine cB ?_ | refine cI ?_) | refine cE rfl ?_ | refine rq (qt_pev tok rfl) ?_ | refine rg rfl rfl (qt_pev tok rfl) ?_ | refine rq (ql tok rfl) ?_ | refine rg rfl rfl (ql tok rfl) ?_ | (refine runL_op0 (sst tok rfl rfl rfl rfl rfl) ?_; rintro _ _ _ ⟨rfl, rfl, rfl⟩) | ((first | refine ro (st_box rfl) ?_ | refine ro (st_alloc tok rfl) ?_ | refine ro (st_buildSlice tok rfl rfl rfl rfl rfl rfl rfl) ?_); rintro _ _ _ ⟨_, rfl, rfl, rfl⟩))
      exact run_sub' (hnext _ _ _ ⟨hlt, rfl, rfl, rfl⟩) ⟨lk_succ rfl (by have := hok.lt; simp only at this; omega), rfl, trivial⟩
  · repeat (first | with_reducible (first | refine cS ?_ | refine cR ?_ | refine cN ?_ | refine cK ?_ | refine cB ?_ | refine cI ?_) | refine cE rfl ?_ | refine rq (qt_pev tok rfl) ?_ | refine rg rfl rfl (qt_pev tok rfl) ?_ | refine rq (ql tok rfl) ?_ | refine rg rfl rfl (ql tok rfl) ?_ | (refine runL_op0 (sst tok rfl rfl rfl rfl rfl) ?_; rintro _ _ _ ⟨rfl, rfl, rfl⟩) | ((first | refine ro (st_box rfl) ?_ | refine ro (st_alloc tok rfl) ?_ | refine ro (st_buildSlice tok rfl rfl rfl rfl rfl rfl rfl) ?_); rintro _ _ _ ⟨_, rfl, rfl, rfl⟩) | refine runL_op (st_callF rfl (fun _ => salive_ok _ _)) rfl rfl rfl ?_; rintro _ M4 _ ⟨rfl, hM4, rfl⟩)
    exact run_ret hC (rs := [.tmp 2]) rfl (resT rfl resN) (fun _ h => h) ⟨rfl, Mem.le_trans hM02 hM4, rfl⟩
end Go.Proofs.Ytbpgiodfccijmaa
namespace Go.Proofs.Ytbpgiodfccijmaa
open Go.Chi

/-! ### what was handed over, as data -/
section
variable {H : Type} {enc : TypeId × Value → H} {W : World} {cs : List Value}
theorem uInt : Try.prog.underlying 3 = some (.int .i64) := und_ok tok (t := 3) rfl
theorem uBool : Try.prog.underlying 4 = some .bool := und_ok tok (t := 4) rfl
theorem uU8 : Try.prog.underlying 5 = some (.int .u8) := und_ok tok (t := 5) rfl
theorem uU16 : Try.prog.underlying 45 = some (.int .u16) := und_ok tok (t := 45) rfl
theorem uStr : Try.prog.underlying 9 = some .string := und_ok tok (t := 9) rfl
theorem rd_tx (h : RD enc Try.prog W 34 cs) : ∃ t : Tx, cs = txC t := by
  obtain ⟨_, _, rfl, h0, _, _, rfl, h1, _, _, rfl, h2, rfl⟩ := h.struct (und_ok tok (t := 34) rfl) (by kernel_rfl)
  obtain ⟨a, rfl, _⟩ := h0.int uInt
  obtain ⟨b, rfl, _⟩ := h1.int uInt
  obtain ⟨c, rfl, _⟩ := h2.int uInt
  exact ⟨⟨a, b, c⟩, rfl⟩
theorem rd_mb (h : RD enc Try.prog W 48 cs) : ∃ m : Mb, cs = mbC m ∧ True := by
  obtain ⟨_, _, rfl, h0, _, _, rfl, h1, rfl⟩ := h.struct (und_ok tok (t := 48) rfl) (by kernel_rfl)
  obtain ⟨a, rfl, _⟩ := h0.int uInt
  obtain ⟨b, rfl, _⟩ := h1.string uStr
  exact ⟨⟨a, b⟩, rfl, trivial⟩
theorem rd_smb (h : RD enc Try.prog W 32 cs) : ∃ s : SMb, cs = [s.v] ∧ s.Ok (memOf W) := by
  obtain ⟨a, len, cap, ls, rfl, _, _, hs, hel⟩ := h.slice (und_ok tok (t := 32) rfl) (size := 2) (by kernel_rfl) (by omega)
  obtain ⟨xs, rfl, _⟩ := list_of (f := mbC) (Q := fun _ => True) fun c hc => rd_mb (hel c hc)
  exact ⟨⟨a, len, cap, xs⟩, rfl, hs⟩
theorem rd_in1 (h : RD enc Try.prog W 3 cs) : ∃ s : Int, cs = inC s ∧ True := by
  obtain ⟨b, rfl, _⟩ := h.int uInt
  exact ⟨b, rfl, trivial⟩
theorem rd_in (h : RD enc Try.prog W 49 cs) : ∃ s : SIn, cs = [s.v] ∧ SlM (memOf W) 1 s.a s.len (s.xs.map inC) := by
  obtain ⟨a, len, cap, ls, rfl, _, _, hs, hel⟩ := h.slice (und_ok tok (t := 49) rfl) (size := 1) (by kernel_rfl) (by omega)
  obtain ⟨xs, rfl, _⟩ := list_of (f := inC) (Q := fun _ => True) fun c hc => rd_in1 (hel c hc)
  exact ⟨⟨a, len, cap, xs⟩, rfl, hs⟩
theorem rd_sr (h : RD enc Try.prog W 51 cs) : ∃ y : Sr, cs = srC y ∧ SlM (memOf W) 1 y.list.a y.list.len (y.list.xs.map inC) := by
  obtain ⟨_, _, rfl, h0, _, _, rfl, h1, _, _, rfl, h2, _, _, rfl, h3, _, _, rfl, h4, _, _, rfl, h5, _, _, rfl, h6, rfl⟩ := h.struct (und_ok tok (t := 51) rfl) (by kernel_rfl)
  obtain ⟨d, rfl, _⟩ := h0.int uU8
  obtain ⟨a, rfl, _⟩ := h1.int uInt
  obtain ⟨b, rfl, _⟩ := h2.int uInt
  obtain ⟨c, rfl, _⟩ := h3.int uInt
  obtain ⟨n, rfl, _⟩ := h4.int uInt
  obtain ⟨t, rfl, _⟩ := h5.string uStr
  obtain ⟨l, rfl, hl⟩ := rd_in h6
  exact ⟨⟨d, a, b, c, n, t, l⟩, rfl, hl⟩
theorem rd_ssr (h : RD enc Try.prog W 35 cs) : ∃ s : SSr, cs = [s.v] ∧ SlM (memOf W) 7 s.a s.len (s.xs.map srC) ∧ ∀ y ∈ s.xs, SlM (memOf W) 1 y.list.a y.list.len (y.list.xs.map inC) := by
  obtain ⟨a, len, cap, ls, rfl, _, _, hs, hel⟩ := h.slice (und_ok tok (t := 35) rfl) (size := 7) (by kernel_rfl) (by omega)
  obtain ⟨xs, rfl, hq⟩ := list_of (f := srC) (Q := fun y : Sr => SlM (memOf W) 1 y.list.a y.list.len (y.list.xs.map inC)) fun c hc => rd_sr (hel c hc)
  exact ⟨⟨a, len, cap, xs⟩, rfl, hs, hq⟩
theorem rd_ax (h : RD enc Try.prog W 37 cs) : ∃ x : Ax, cs = axC x ∧ AxIn (memOf W) x := by
  obtain ⟨_, _, rfl, h0, _, _, rfl, h1, _, _, rfl, h2, _, _, rfl, h3, _, _, rfl, h4, _, _, rfl, h5, _, _, rfl, h6, _, _, rfl, h7, rfl⟩ := h.struct (und_ok tok (t := 37) rfl) (by kernel_rfl)
  obtain ⟨k, rfl, _⟩ := h0.int uU8
  obtain ⟨o, rfl, _⟩ := h1.int uInt
  obtain ⟨au, rfl, _⟩ := h2.int uInt
  obtain ⟨n, rfl, _⟩ := h3.int uInt
  obtain ⟨g, rfl, hg⟩ := rd_smb h4
  obtain ⟨t, rfl⟩ := rd_tx h5
  obtain ⟨y, rfl⟩ := h6.bool uBool
  obtain ⟨s, rfl, hs, hy⟩ := rd_ssr h7
  exact ⟨⟨k, o, au, n, g, t, y, s⟩, rfl, ⟨hg, hs, hy⟩⟩
theorem rd_sax (h : RD enc Try.prog W 22 cs) : ∃ s : SAx, cs = [s.v] ∧ SaIn (memOf W) s := by
  obtain ⟨a, len, cap, ls, rfl, _, _, hs, hel⟩ := h.slice (und_ok tok (t := 22) rfl) (size := 10) (by kernel_rfl) (by omega)
  obtain ⟨xs, rfl, hq⟩ := list_of (f := axC) (Q := fun x : Ax => AxIn (memOf W) x) fun c hc => rd_ax (hel c hc)
  exact ⟨⟨a, len, cap, xs⟩, rfl, ⟨hs, hq⟩⟩
end
theorem own : ownKnob Try.prog.godebug = none := by kernel_rfl
theorem laid : laidOutB Try.prog = true := by kernel_rfl
end Go.Proofs.Ytbpgiodfccijmaa
