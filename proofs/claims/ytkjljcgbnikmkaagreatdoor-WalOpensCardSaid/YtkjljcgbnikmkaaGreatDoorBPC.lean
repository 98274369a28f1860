import Derived.Test.YtkjljcgbnikmkaaGreatDoorBPA
import Derived.Test.YtkjljcgbnikmkaaGreatDoorBPB
import Derived.Laws.IdiomCopy
namespace Go.Proofs.YtkjljcgbnikmkaaGreatDoor
open Go.Chi
set_option maxRecDepth 10000
theorem sp_is {s : Sp} (h : s.nx.size = 32) : (spC s)[34]? = some (.bool s.is_) := by
  have h1 : (lkC s.nx).length = 32 := by rw [lkC_len, h]
  unfold spC
  rw [List.getElem?_append_right (by simp), List.getElem?_append_right (by simp; omega)]
  simp [h1]
theorem sp_at {s : Sp} (h : s.nx.size = 32) : (spC s)[33]? = some (iv s.at_) := by
  have h1 : (lkC s.nx).length = 32 := by rw [lkC_len, h]
  unfold spC
  rw [List.getElem?_append_right (by simp), List.getElem?_append_right (by simp; omega)]
  simp [h1]
theorem sp_nx {M : Mem} {L : HL} {b : Nat} {s : Sp} {et : TypeId} {fz : Nat × Nat} (hm : (b, Obj.cells ⟨spC s⟩ et fz) ∈ L) : Cells M L b (0 + 1) (bC s.nx.data.toList) :=
  ⟨⟨spC s⟩, et, fz, .inl hm, fun i u hu => by
    have hi := (List.getElem?_eq_some_iff.1 hu).1
    have h2 : (spC s)[0 + 1 + i]? = some u := by
      unfold spC
      have e : 0 + 1 + i = [Value.string s.t].length + i := by simp
      rw [e, List.getElem?_append_right (by omega), Nat.add_sub_cancel_left, List.getElem?_append_left (by exact hi)]
      exact hu
    simpa using h2⟩
theorem oneL_bC (r : List Value) : ∀ l : List UInt8, oneL (bC l ++ r) = oneL r
  | [] => rfl
  | _ :: l => oneL_bC r l
theorem spC_one (z : Sp) : oneL (spC z) = true := oneL_bC [.int .i64 (z.at_ : Int), .bool z.is_] z.nx.data.toList
theorem osV {e size n : Nat} {v : Value} {xs : List Value} {N : HL} (h : OS e size v n xs N) : ∃ a cap, v = .slice a n cap := by
  rcases h with ⟨rfl, rfl, _, _⟩ | ⟨b, cap, cs, rfl, _⟩
  · exact ⟨none, 0, rfl⟩
  · exact ⟨_, cap, rfl⟩
theorem frsB_len : ∀ (l : ByteArray) (ts : List ByteArray), ts.length ≤ (frsB l ts).size
  | _, [] => Nat.zero_le _
  | l, t :: ts => by
    have := frsB_len (nextB l t) ts
    rw [frsB, app_size, frB_size, List.length_cons]; omega
theorem Scn.len {l s rest : ByteArray} {ts : List ByteArray} (h : Scn l s ts rest) : ts.length ≤ s.size := by
  have := frsB_len l ts
  rw [h.eq, app_size]; omega
set_option maxHeartbeats 8000000 in
theorem chScan_ok (M : Mem) (L : HL) (s rest : ByteArray) (ts : List ByteArray) (hk : KM M) (h : Scn firstB s ts rest) (hs : s.size < 10000000) :
    Tr Tryz.prog 38 [.string s] M L (fun v M' L' => M.le M' ∧ ∃ lv N, v = .tuple ⟨[lv, .string (headB firstB ts), iv (frsB firstB ts).size]⟩ ∧ L' = N ++ L ∧ OS 9 1 lv ts.length (ts.map stC).flatten N) := by
  have hsl := h.len
  have hpl : placeB ts ts.length = (frsB firstB ts).size ∧ linkB ts ts.length = headB firstB ts := by
    unfold placeB linkB; rw [List.take_of_length_le (Nat.le_refl _)]; exact ⟨rfl, rfl⟩
  refine Tr.intro 26 Tryz.func38 rfl rfl Tryz.call38 rfl ?_
  intro C hC hro
  repeat (first | refine zz ?_ | refine zx fun _ => ?_ | refine run_scope ?_ | refine run_label ?_ | refine rq (qt_callF rfl (fun _ => chFirst_ok _ _)) ?_ | (refine ro (st_callF rfl (fun _ => steps_ok _ _ s)) ?_; rintro _ M1 _ ⟨hM1, rfl, bs, rfl, hbs⟩))
  rename_i b2 b3 b4
  have hit := steps1_ok M1 bs s rest ts (hk.le hM1) hbs h hs
  have hxs : ∀ x ∈ stepsL s ts, x.length = 1 := by
    intro x hx
    obtain ⟨p, _, rfl⟩ := List.mem_map.1 hx
    rfl
  have hgo : ∀ j t, ts[j]? = some t → stepF (linkB ts j) (placeB ts j) (s.extract (placeB ts j) s.size) = ⟨t, linkB ts (j + 1), placeB ts (j + 1), true⟩ := fun j t ht => by
    obtain ⟨y, h1, h2, h3⟩ := at_split h ht
    have hn := nextB_size (linkB ts j) t
    rw [h1, stepF_go (h.sh t (List.mem_of_getElem? ht)) (by rw [app_size, hn]; omega), ← h3, ← h2]
    congr 1
    rw [decide_eq_true_eq, h3, ← hn]
    exact ext_left _ _
  have hno : (stepF (linkB ts ts.length) (placeB ts ts.length) (s.extract (placeB ts ts.length) s.size)).is_ = false := by
    rw [(at_end h).1, (at_end h).2]; exact stepF_no h.no
  let LL := fun (va : Value) (k : Nat) (NA R : HL) => (b4, Obj.cells ⟨[iv (placeB ts k)]⟩ 3 (0, 0)) :: (b3, Obj.cells ⟨[.string (linkB ts k)]⟩ 9 (0, 0)) :: (b2, Obj.cells ⟨[va]⟩ 33 (0, 0)) :: (NA ++ R)
  refine run_range hro rfl hit rfl hxs
    (fun k M' L' => M1.le M' ∧ k ≤ ts.length ∧ ∃ va NA, OS 9 1 va k ((ts.take k).map stC).flatten NA ∧ L' = LL va k NA L)
    (fun c _ M' L' => c = .exit 0 ∧ M1.le M' ∧ ∃ va NA, OS 9 1 va ts.length (ts.map stC).flatten NA ∧ L' = LL va ts.length NA L) ?_ ?_ ?_ ?_
  · exact ⟨Mem.le_refl _, Nat.zero_le _, _, [], OS.nil _ _, rfl⟩
  · rintro j x M2 _ R R' C' hx hM2 ⟨hM2', hjl, va, NA, hO, rfl⟩ B
    have hj1 : j < (stepsL s ts).length := (List.getElem?_eq_some_iff.1 hx).1
    rw [stepsL, fc_len] at hj1
    rw [stepsL, fc_get hj1] at hx
    generalize hz : stepF (linkB ts j) (placeB ts j) (s.extract (placeB ts j) s.size) = z at hx
    have hz32 : z.nx.size = 32 := by rw [← hz]; exact stepF_nx _ _ _
    cases hx
    have hzl : (spC z).length = 35 := spC_len hz32
    simp only [LL, List.cons_append, List.append_assoc]
    refine run_region ?_
    refine wa (fun b5 => ?_)
    refine ws (cs' := spC z) ?_ rfl rfl rfl (by show (spC z).length = 35; exact hzl) (spC_one z) (Upd.here _ _ _ _) (setE_all (by show (spC z).length = 35; exact hzl))
    refine runL_nil ?_
    refine B.begin' ((b5, .cells ⟨spC z⟩ 115 (0, 0)) :: LL va j NA L) (by simp [LL]) ?_
    simp only [LL, List.cons_append, List.append_assoc]
    repeat (first | refine zz ?_ | refine zx fun _ => ?_ | refine rq (qt_ld tok rfl List.mem_cons_self (ldE_at rfl (sp_is hz32))) ?_)
    refine run_cond rfl (fun hc => ?_) (fun hc => ?_)
    · have hf : z.is_ = false := by simpa using hc
      have hje : j = ts.length := by
        by_cases hlt : j < ts.length
        · have := hgo j _ (List.getElem?_eq_getElem hlt)
          rw [hz] at this
          rw [this] at hf; cases hf
        · omega
      subst hje
      rw [List.take_of_length_le (Nat.le_refl _)] at hO
      exact run_mem (L' := LL va ts.length NA L ++ R') (fun w h => by simpa [LL] using h.drop) (B.exit 0 _ _ _ _ rfl (Mem.le_refl _) ⟨rfl, hM2', va, NA, hO, rfl⟩)
    · have ht : z.is_ = true := by simpa using hc
      have hlt : j < ts.length := by
        refine Nat.lt_of_le_of_ne hjl fun e => ?_
        subst e
        rw [hz, ht] at hno; cases hno
      have hzt := hgo j _ (List.getElem?_eq_getElem hlt)
      rw [hz] at hzt
      generalize hte : ts[j] = t at hzt
      have htj : ts[j]? = some t := by rw [← hte]; exact List.getElem?_eq_getElem hlt
      obtain ⟨aa, ca, rfl⟩ := osV hO
      have hnx : z.nx = linkB ts (j + 1) := by rw [hzt]
      have hat : z.at_ = placeB ts (j + 1) := by rw [hzt]
      have htt : z.t = t := by rw [hzt]
      clear hzt
      refine run_skip ?_
      refine prn_start mixed ?_
      refine pr_q 0 (by decide +kernel) rfl (ql tok rfl) rfl rfl rfl ?_
      refine pr_q 1 (by decide +kernel) rfl (qt_pev tok rfl) rfl rfl rfl ?_
      refine pr_q 2 (by decide +kernel) rfl (qt_ld (v := .string z.t) tok rfl List.mem_cons_self (ldE_at rfl rfl)) rfl rfl rfl ?_
      refine pr_q 5 (by decide +kernel) rfl (qt_pev tok rfl) rfl rfl rfl ?_
      refine pr_q 6 (by decide +kernel) rfl (qt_sliceAll tok rfl rfl rfl) rfl rfl rfl ?_
      refine pr_q 7 (by decide +kernel) rfl (qt_bytesT z.nx rfl rfl rfl rfl (sp_nx List.mem_cons_self) hz32) rfl rfl rfl ?_
      refine pr_q 8 (by decide +kernel) rfl (qt_pev tok rfl) rfl rfl rfl ?_
      refine pr_q 9 (by decide +kernel) rfl (qt_ld (v := iv z.at_) tok rfl List.mem_cons_self (ldE_at rfl (sp_at hz32))) rfl rfl rfl ?_
      refine pr_one 3 (by decide +kernel) (eff1 3 rfl (st_buildSlice tok rfl rfl rfl rfl rfl rfl rfl) (by decide +kernel) (qs := _) rfl rfl rfl rfl ?_)
      rintro _ _ _ ⟨b6, rfl, rfl, rfl⟩
      refine ⟨by (repeat (first | exact trivial | refine And.intro (pend_q rfl rfl rfl (qt_pev tok rfl)) ?_ | refine And.intro (pend_q rfl rfl rfl (ql tok rfl)) ?_ | refine And.intro (pend_q rfl rfl rfl (qt_ld tok rfl (by (repeat (first | with_reducible apply List.mem_cons_self | with_reducible assumption | with_reducible apply List.mem_cons_of_mem | with_reducible apply List.mem_append_right))) (ldE_at rfl (sp_at hz32)))) ?_ | refine And.intro (pend_q rfl rfl rfl (qt_sliceAll tok rfl rfl rfl)) ?_ | refine And.intro (pend_q rfl rfl rfl (qt_bytesT z.nx rfl rfl rfl rfl (sp_nx (by (repeat (first | with_reducible apply List.mem_cons_self | with_reducible assumption | with_reducible apply List.mem_cons_of_mem | with_reducible apply List.mem_append_right)))) hz32)) ?_)), ?_⟩
      refine pr_one 4 (by decide +kernel) (eff1 4 rfl (st_append (news := [.string z.t]) tok rfl rfl rfl rfl rfl rfl rfl rfl (pm5 _ _ _ _ _ NA _) hO (.inr ⟨b6, 0, 1, rfl, cellsAll List.mem_cons_self, rfl⟩) (by intro u hu; simp at hu; subst hu; rfl) (by omega) (by omega)) (by decide +kernel) (qs := _) rfl rfl rfl rfl ?_)
      rintro _ _ _ ⟨N', rfl, rfl, hO'⟩
      obtain ⟨aa', ca', rfl⟩ := osV hO'
      refine ⟨by (repeat (first | exact trivial | refine And.intro (pend_q rfl rfl rfl (qt_pev tok rfl)) ?_ | refine And.intro (pend_q rfl rfl rfl (ql tok rfl)) ?_ | refine And.intro (pend_q rfl rfl rfl (qt_ld tok rfl (by (repeat (first | with_reducible apply List.mem_cons_self | with_reducible assumption | with_reducible apply List.mem_cons_of_mem | with_reducible apply List.mem_append_right))) (ldE_at rfl (sp_at hz32)))) ?_ | refine And.intro (pend_q rfl rfl rfl (qt_sliceAll tok rfl rfl rfl)) ?_ | refine And.intro (pend_q rfl rfl rfl (qt_bytesT z.nx rfl rfl rfl rfl (sp_nx (by (repeat (first | with_reducible apply List.mem_cons_self | with_reducible assumption | with_reducible apply List.mem_cons_of_mem | with_reducible apply List.mem_append_right)))) hz32)) ?_)), ?_⟩
      refine pr_one 10 (by decide +kernel) (eff0 10 rfl (sst tok rfl rfl rfl rfl rfl) (by decide +kernel) (qs := _) rfl ?_)
      rintro _ _ _ ⟨rfl, rfl, rfl⟩
      refine ⟨by (repeat (first | exact trivial | refine And.intro (pend_q rfl rfl rfl (qt_pev tok rfl)) ?_ | refine And.intro (pend_q rfl rfl rfl (ql tok rfl)) ?_ | refine And.intro (pend_q rfl rfl rfl (qt_ld tok rfl (by (repeat (first | with_reducible apply List.mem_cons_self | with_reducible assumption | with_reducible apply List.mem_cons_of_mem | with_reducible apply List.mem_append_right))) (ldE_at rfl (sp_at hz32)))) ?_ | refine And.intro (pend_q rfl rfl rfl (qt_sliceAll tok rfl rfl rfl)) ?_ | refine And.intro (pend_q rfl rfl rfl (qt_bytesT z.nx rfl rfl rfl rfl (sp_nx (by (repeat (first | with_reducible apply List.mem_cons_self | with_reducible assumption | with_reducible apply List.mem_cons_of_mem | with_reducible apply List.mem_append_right)))) hz32)) ?_)), ?_⟩
      refine pr_one 11 (by decide +kernel) (eff0 11 rfl (sst tok rfl rfl rfl rfl rfl) (by decide +kernel) (qs := _) rfl ?_)
      rintro _ _ _ ⟨rfl, rfl, rfl⟩
      refine ⟨by (repeat (first | exact trivial | refine And.intro (pend_q rfl rfl rfl (qt_pev tok rfl)) ?_ | refine And.intro (pend_q rfl rfl rfl (ql tok rfl)) ?_ | refine And.intro (pend_q rfl rfl rfl (qt_ld tok rfl (by (repeat (first | with_reducible apply List.mem_cons_self | with_reducible assumption | with_reducible apply List.mem_cons_of_mem | with_reducible apply List.mem_append_right))) (ldE_at rfl (sp_at hz32)))) ?_ | refine And.intro (pend_q rfl rfl rfl (qt_sliceAll tok rfl rfl rfl)) ?_ | refine And.intro (pend_q rfl rfl rfl (qt_bytesT z.nx rfl rfl rfl rfl (sp_nx (by (repeat (first | with_reducible apply List.mem_cons_self | with_reducible assumption | with_reducible apply List.mem_cons_of_mem | with_reducible apply List.mem_append_right)))) hz32)) ?_)), ?_⟩
      refine pr_one 12 (by decide +kernel) (eff0 12 rfl (sst tok rfl rfl rfl rfl rfl) (by decide +kernel) (qs := _) rfl ?_)
      rintro _ _ _ ⟨rfl, rfl, rfl⟩
      refine ⟨by (repeat (first | exact trivial | refine And.intro (pend_q rfl rfl rfl (qt_pev tok rfl)) ?_ | refine And.intro (pend_q rfl rfl rfl (ql tok rfl)) ?_ | refine And.intro (pend_q rfl rfl rfl (qt_ld tok rfl (by (repeat (first | with_reducible apply List.mem_cons_self | with_reducible assumption | with_reducible apply List.mem_cons_of_mem | with_reducible apply List.mem_append_right))) (ldE_at rfl (sp_at hz32)))) ?_ | refine And.intro (pend_q rfl rfl rfl (qt_sliceAll tok rfl rfl rfl)) ?_ | refine And.intro (pend_q rfl rfl rfl (qt_bytesT z.nx rfl rfl rfl rfl (sp_nx (by (repeat (first | with_reducible apply List.mem_cons_self | with_reducible assumption | with_reducible apply List.mem_cons_of_mem | with_reducible apply List.mem_append_right)))) hz32)) ?_)), ?_⟩
      refine pr_end (by decide +kernel) (by decide +kernel) ?_
      refine run_inBlock ?_
      rw [hat, hnx, htt] at *
      refine B.fin' (L2 := LL (.slice aa' (j + 1) ca') (j + 1) N' L) (Mem.le_refl _) (fun w h => ?_) ⟨hM2', hlt, _, N', ?_, rfl⟩
      · have h2 := ((h.perm List.perm_middle).drop.perm List.perm_middle).drop.perm (pm3 _ _ _ N' _).symm
        simpa [LL, cellsL] using h2
      · rw [take_snoc htj, List.map_append, List.flatten_append]; exact hO'
  · rintro D M2 _ hM2 ⟨hM2', hk', _⟩
    exfalso
    rw [stepsL, fc_len] at hk'
    omega
  · rintro _ j D M2 _ hM2 ⟨rfl, hM2', va, NA, hO, rfl⟩
    obtain ⟨aa, ca, rfl⟩ := osV hO
    simp only [LL]
    refine run_exit rfl ?_
    repeat (first | refine zz ?_ | refine zx fun _ => ?_ | refine dd ?_ | refine dz ?_ | refine dx fun _ => ?_)
    refine run_ret1 hC (by (repeat (first | with_reducible apply Upd.here | with_reducible apply Upd.there | with_reducible apply Upd.append_left))) (rs := [.cell 2 33, .cell 3 9, .cell 4 3]) rfl (rl tok rfl (rl tok rfl (rl tok rfl resN))) (fun _ h => h.drop.drop.drop.drop) ⟨Mem.le_trans hM1 hM2, _, NA, ?_, rfl, hO⟩
    rw [hpl.1, hpl.2]; rfl
end Go.Proofs.YtkjljcgbnikmkaaGreatDoor
namespace Go.Chi
section
variable {P : Program} {T : TT} {ro : Option Nat} {σ : Env} {δ : Den} {cur : Path} {M : Mem} {L : HL} {d : Option Nat} {op : Op} {ty : TypeId} {pos : String} {aft : Array Edge} {g : Option (Nat × Bool)} {v : Value}
theorem qt_copy0 (hT : TOk P T) {x y : Operand} {t t' e : TypeId} {a a' : Option Addr} {dl dc sl sc : Nat} (hx : ev σ δ cur x = some (.slice a dl dc)) (hy : ev σ δ cur y = some (.slice a' sl sc)) (ht : und T t = some (.slice e)) (hi : sizeT T e = some 1) (h0 : Hy σ δ cur → Nat.min sl dl = 0) :
    Qt P ro ⟨d, .call ⟨.builtin .copy, #[x, y], #[t, t']⟩, ty, pos, aft, g⟩ σ δ cur M L (.int .i64 0) :=
  qt_of_run (semAt_of (by intro c e; cases e)) fun act w hse hcur hp => by
    obtain ⟨i, hi1, his⟩ := sizeT_ok hi
    have hrun := run_copy_none (P := P) w t t' ty e a a' dl dc sl sc (und_ok hT ht) (by rw [hT.info _ _ hi1]; simp [his]) (h0 (Hy_of hse hcur))
    simp only [execOp, resolve, Sem.run_bind, Sem.run_pure, Result.andThen_ok, invoke, builtin, List.map_toArray, List.map_cons, List.map_nil, ev_sound hse hcur hx, ev_sound hse hcur hy, hrun]
    rfl
theorem qt_bytesNil (hT : TOk P T) {s t e : TypeId} {x : Operand} {c : Nat} (hs' : und T s = some (.slice e)) (he : und T e = some (.int .u8)) (hu : und T t = some .string) (hx : ev σ δ cur x = some (.slice none 0 c)) :
    Qt P ro ⟨d, .convert s t x, ty, pos, aft, g⟩ σ δ cur M L (.string ⟨#[]⟩) :=
  qt_of_run (semAt_of (by intro c e; cases e)) fun a w hs hcur hp => by
    have h4 := run_convert_bytes_string (P := P) w s t e none 0 c (und_ok hT hs') (und_ok hT he) (und_ok hT hu)
    simp only [execOp, ev_sound hs hcur hx, Sem.run_bind, h4]
    simp [Conv.bytesToString]
    rfl
end
end Go.Chi
namespace Go.Proofs.YtkjljcgbnikmkaaGreatDoor
open Go.Chi
set_option maxRecDepth 10000
structure Ds where
  s : ByteArray
  syn : Nat
  armed : Bool
  down : Bool
  left : Nat
  room : Nat
structure DsOk (x : Ds) : Prop where
  syn : x.syn ≤ x.s.size
  fit : x.s.size ≤ x.room
  room : x.room ≤ 1048576
structure BV (M : Mem) (a : Option Addr) (cap : Nat) (s : ByteArray) : Prop where
  le : s.size ≤ cap
  lt : cap < 10000000
  at_ : (a = none ∧ s.size = 0) ∨ ∃ b off, a = some ⟨b, off, none⟩ ∧ Cells M [] b off (bC s.data.toList)
theorem BV.mono {M M' : Mem} {a : Option Addr} {cap : Nat} {s : ByteArray} (hm : M.le M') (h : BV M a cap s) : BV M' a cap s :=
  ⟨h.le, h.lt, h.at_.imp id fun ⟨b, off, h1, h2⟩ => ⟨b, off, h1, h2.le hm⟩⟩
abbrev dkB (b : Nat) (x : Ds) (a : Option Addr) (cap : Nat) : Nat × Obj := (b, .cells ⟨[.slice a x.s.size cap, iv x.syn, .bool x.armed, .bool x.down, iv x.left, iv x.room]⟩ 81 (0, 0))
def DkK (r : Int × Ds) (M : Mem) (b : Nat) (L : HL) (v : Value) (M' : Mem) (L' : HL) : Prop :=
  M.le M' ∧ ∃ a' cap', v = .int .i64 r.1 ∧ L' = dkB b r.2 a' cap' :: L ∧ BV M' a' cap' r.2.s
def wr (x : Ds) (r : Int × Ds) : Int × Ds :=
  if x.armed = true ∧ x.left = 0 then (140, { x with down := true }) else if r.1 = 0 ∧ r.2.armed = true then (0, { r.2 with left := r.2.left - 1 }) else r
def dApp (x : Ds) (t : ByteArray) : Int × Ds := wr x (if x.room - x.s.size < t.size then (4, x) else (0, { x with s := x.s ++ t }))
def dCut (x : Ds) (n : Nat) : Int × Ds := wr x (if x.s.size < n then (2, x) else (0, { x with s := x.s.extract 0 n, syn := n }))
def dSync (x : Ds) : Int × Ds := wr x (0, { x with syn := x.s.size })
def dArm (x : Ds) (n : Int) : Ds := { x with armed := true, left := n.toNat }
def crashN (x : Ds) (keep : Int) : Nat := if keep.toNat < x.s.size - x.syn then x.syn + keep.toNat else x.s.size
def dCrash (x : Ds) (keep : Int) : Ds := ⟨x.s.extract 0 (crashN x keep), crashN x keep, false, false, 0, x.room⟩
theorem ds_bool_ne {n : Nat} : ((n : Int) == 0) = decide (n = 0) := by
  rw [Bool.eq_iff_iff]; simp
set_option maxHeartbeats 4000000 in
theorem dkWrite_ok (M : Mem) (L : HL) (b : Nat) (x : Ds) (a : Option Addr) (cap g : Nat) (caps : List Value) (r : Int × Ds) (_hx : DsOk x) (hv : BV M a cap x.s) (hl : r.2.armed = x.armed ∧ r.2.left = x.left ∧ x.left < 9223372036854775808)
    (hg : Tr Tryz.prog g caps M (dkB b x a cap :: L) (DkK r M b L)) : Tr Tryz.prog 56 [pt b, .func (.func g) ⟨[]⟩ ⟨caps⟩] M (dkB b x a cap :: L) (DkK (wr x r) M b L) := by
  refine Tr.intro 48 Tryz.func56 rfl rfl Tryz.call56 rfl ?_
  intro C hC hro
  repeat (first | refine zz ?_ | refine zx fun _ => ?_)
  refine run_cond rfl (fun h => by cases h) (fun _ => ?_)
  repeat (first | refine zz ?_ | refine zx fun _ => ?_)
  refine run_cond (t := x.armed && ((x.left : Int) == 0)) rfl (fun h => ?_) (fun h => ?_)
  · rw [ds_bool_ne] at h
    have hs : x.armed = true ∧ x.left = 0 := by simpa using h
    repeat (first | refine zz ?_ | refine zx fun _ => ?_)
    exact run_ret hC (rs := [.tmp 4]) rfl (resT rfl resN) (fun _ h => h) ⟨Mem.le_refl _, a, cap, by rw [wr, if_pos hs]; rfl, by rw [wr, if_pos hs], by rw [wr, if_pos hs]; exact hv⟩
  rw [ds_bool_ne] at h
  have hs : ¬ (x.armed = true ∧ x.left = 0) := by simpa using h
  repeat (first | refine zz ?_ | refine zx fun _ => ?_)
  refine ro (st_callV rfl rfl (fun _ => hg)) ?_
  rintro _ M1 _ ⟨hM1, a1, c1, rfl, rfl, hv1⟩
  obtain ⟨e, x1⟩ := r
  simp only at hl hv1
  repeat (first | refine zz ?_ | refine zx fun _ => ?_)
  refine run_cond (t := (e == 0) && x1.armed) rfl (fun h => ?_) (fun h => ?_)
  · have h0 : e = 0 ∧ x1.armed = true := by simpa using h
    have hw : wr x (e, x1) = (0, { x1 with left := x1.left - 1 }) := by rw [wr, if_neg hs, if_pos h0]
    have hle : 1 ≤ x1.left := by
      rw [hl.2.1]
      rcases Nat.eq_zero_or_pos x.left with h1 | h1
      · exact absurd ⟨by rw [← hl.1]; exact h0.2, h1⟩ hs
      · exact h1
    have e1 : IntKind.i64.wrap ((x1.left : Int) - 1) = ((x1.left - 1 : Nat) : Int) := by
      rw [show (x1.left : Int) - 1 = ((x1.left - 1 : Nat) : Int) by omega]; exact wrap64_nat (by omega)
    repeat (first | refine zz ?_ | refine zx fun _ => ?_)
    refine run_ret hC (rs := [.tmp 4]) rfl (resT rfl resN) (fun _ h => h) ⟨hM1, a1, c1, by rw [hw, h0.1]; rfl, ?_, by rw [hw]; exact hv1⟩
    rw [hw]
    show (b, Obj.cells ⟨[.slice a1 x1.s.size c1, iv x1.syn, .bool x1.armed, .bool x1.down, .int .i64 (IntKind.i64.wrap ((x1.left : Int) - 1)), iv x1.room]⟩ _ _) :: L = _
    rw [e1]
  · have h0 : ¬ (e = 0 ∧ x1.armed = true) := by simpa using h
    have hw : wr x (e, x1) = (e, x1) := by rw [wr, if_neg hs, if_neg h0]
    repeat (first | refine zz ?_ | refine zx fun _ => ?_)
    exact run_ret hC (rs := [.tmp 4]) rfl (resT rfl resN) (fun _ h => h) ⟨hM1, a1, c1, by rw [hw]; rfl, by rw [hw], by rw [hw]; exact hv1⟩
theorem dkNew_ok (M : Mem) (L : HL) (room : Int) : Tr Tryz.prog 26 [.int .i64 room] M L (fun v M' L' => M = M' ∧ (((room < 0 ∨ room > 1048576) ∧ v = .tuple ⟨[.pointer none, .int .i64 2]⟩ ∧ L' = L) ∨ ((0 ≤ room ∧ room ≤ 1048576) ∧ ∃ b, v = .tuple ⟨[pt b, .int .i64 0]⟩ ∧ L' = dkB b ⟨bz, 0, false, false, 0, room.toNat⟩ none 0 :: L))) := by
  refine Tr.intro 13 Tryz.func26 rfl rfl Tryz.call26 rfl ?_
  intro C hC hro
  repeat (first | refine zz ?_ | refine zx fun _ => ?_)
  refine run_cond (t := decide (room < 0) || decide (room > 1048576)) rfl (fun h => ?_) (fun h => ?_)
  · have h0 : room < 0 ∨ room > 1048576 := by simpa using h
    repeat (first | refine zz ?_ | refine zx fun _ => ?_)
    exact run_ret hC (rs := [.tmp 2, .tmp 3]) rfl (resT rfl (resT rfl resN)) (fun _ h => h) ⟨rfl, .inl ⟨h0, rfl, rfl⟩⟩
  have h0 : 0 ≤ room ∧ room ≤ 1048576 := by simp at h; omega
  obtain ⟨n, rfl⟩ : ∃ n : Nat, room = (n : Int) := ⟨room.toNat, by omega⟩
  repeat (first | refine zz ?_ | refine zx fun _ => ?_)
  rename_i b
  exact run_ret hC (rs := [.tmp 2, .tmp 3]) rfl (resT rfl (resT rfl resN)) (fun _ h => h) ⟨rfl, .inr ⟨h0, b, rfl, rfl⟩⟩
theorem dkSync1_ok (M : Mem) (L : HL) (b bd : Nat) (x : Ds) (a : Option Addr) (cap : Nat) (hv : BV M a cap x.s) (hbd : Cells M [] bd 0 [pt b]) :
    Tr Tryz.prog 58 [pt bd] M (dkB b x a cap :: L) (DkK (0, { x with syn := x.s.size }) M b L) := by
  refine Tr.intro 12 Tryz.func58 rfl rfl Tryz.call58 rfl ?_
  intro C hC hro
  repeat (first | refine zz ?_ | refine zx fun _ => ?_ | refine dd ?_ | refine dz ?_ | refine dx fun _ => ?_ | refine prn_q rfl (qt_indexN tok rfl rfl rfl rfl (fun _ => by omega)) (by decide +kernel) rfl rfl rfl ?_ | refine prn_g rfl rfl rfl (qt_indexN tok rfl rfl rfl rfl (fun _ => by omega)) (by decide +kernel) rfl rfl rfl rfl rfl ?_ | refine prn_q rfl (qt_ldM tok rfl hbd rfl) (by decide +kernel) rfl rfl rfl ?_ | refine prn_g rfl rfl rfl (qt_ldM tok rfl hbd rfl) (by decide +kernel) rfl rfl rfl rfl rfl ?_ | refine prn_q rfl (qt_ldM0 tok rfl hbd rfl) (by decide +kernel) rfl rfl rfl ?_ | refine prn_g rfl rfl rfl (qt_ldM0 tok rfl hbd rfl) (by decide +kernel) rfl rfl rfl rfl rfl ?_)
  exact run_ret hC (rs := [.tmp 1]) rfl (resT rfl resN) (fun _ h => h) ⟨Mem.le_refl _, a, cap, rfl, rfl, hv⟩
theorem dkSync_ok (M : Mem) (L : HL) (b : Nat) (x : Ds) (a : Option Addr) (cap : Nat) (hx : DsOk x) (hv : BV M a cap x.s) (hl : x.left < 9223372036854775808) :
    Tr Tryz.prog 28 [pt b] M (dkB b x a cap :: L) (DkK (dSync x) M b L) := by
  refine Tr.intro 6 Tryz.func28 rfl rfl Tryz.call28 rfl ?_
  intro C hC hro
  refine run_seq ?_
  (refine run_region ?_; (repeat (first | refine zq ?_ | refine zx fun _ => ?_)); refine runL_nil ?_)
  refine run_frz 0 rfl ?_
  intro M1 hM1 hb1
  refine run_mem (L' := dkB b x a cap :: L) (fun _ h => h) ?_
  have hc1 := Cells.ofBlk hb1
  repeat (first | refine zz ?_ | refine zx fun _ => ?_ | refine runL_q (qt_indexN tok rfl rfl rfl rfl (fun _ => by omega)) rfl rfl rfl ?_ | refine runL_g rfl rfl (qt_indexN tok rfl rfl rfl rfl (fun _ => by omega)) rfl rfl rfl rfl rfl ?_ | refine runL_q (qt_ldM tok rfl hc1 rfl) rfl rfl rfl ?_ | refine runL_g rfl rfl (qt_ldM tok rfl hc1 rfl) rfl rfl rfl rfl rfl ?_ | refine runL_q (qt_ldM0 tok rfl hc1 rfl) rfl rfl rfl ?_ | refine runL_g rfl rfl (qt_ldM0 tok rfl hc1 rfl) rfl rfl rfl rfl rfl ?_)
  rename_i b1
  refine ro (st_callF rfl (fun _ => dkWrite_ok M1 L b x a cap _ _ (0, { x with syn := x.s.size }) hx (hv.mono hM1) ⟨rfl, rfl, hl⟩ (dkSync1_ok M1 L b b1 x a cap (hv.mono hM1) hc1))) ?_
  rintro _ M2 _ ⟨hM2, a2, c2, rfl, rfl, hv2⟩
  repeat (first | refine zz ?_ | refine zx fun _ => ?_)
  exact run_ret hC (rs := [.tmp 2]) rfl (resT rfl resN) (fun _ h => h) ⟨Mem.le_trans hM1 hM2, a2, c2, rfl, rfl, hv2⟩
theorem BV.take {M : Mem} {a : Option Addr} {cap : Nat} {s : ByteArray} (h : BV M a cap s) {n : Nat} (hn : n ≤ s.size) : BV M (subA 1 a n 0) n (s.extract 0 n) := by
  have hsz : (s.extract 0 n).size = n := by rw [← ba_len, ba_extract, List.drop_zero, List.length_take, ba_len]; omega
  refine ⟨by omega, by have := h.le; have := h.lt; omega, ?_⟩
  rcases h.at_ with ⟨rfl, h0⟩ | ⟨b, off, rfl, hc⟩
  · exact .inl ⟨by unfold subA; split <;> rfl, by omega⟩
  · refine .inr ⟨b, off, ?_, ?_⟩
    · unfold subA
      split
      · rfl
      · simp [add_none]
    · have := hc.sub (k := 0) (n := n)
      have e : bC (s.extract 0 n).data.toList = seg (bC s.data.toList) 0 n := by
        rw [ba_extract, seg, List.drop_zero, List.drop_zero]; unfold bC; rw [List.map_take]
      rw [e]; exact this
theorem ext0_size {s : ByteArray} {n : Nat} (hn : n ≤ s.size) : (s.extract 0 n).size = n := by rw [← ba_len, ba_extract, List.drop_zero, List.length_take, ba_len]; omega
set_option maxHeartbeats 4000000 in
theorem dkCut1_ok (M : Mem) (L : HL) (b bd bn n : Nat) (x : Ds) (a : Option Addr) (cap : Nat) (hv : BV M a cap x.s) (hbd : Cells M [] bd 0 [pt b]) (hbn : Cells M [] bn 0 [iv n]) :
    Tr Tryz.prog 71 [pt bn, pt bd] M (dkB b x a cap :: L) (DkK (if x.s.size < n then (2, x) else (0, { x with s := x.s.extract 0 n, syn := n })) M b L) := by
  have hle := hv.le
  refine Tr.intro 32 Tryz.func71 rfl rfl Tryz.call71 rfl ?_
  intro C hC hro
  repeat (first | refine zz ?_ | refine zx fun _ => ?_ | refine dd ?_ | refine dz ?_ | refine dx fun _ => ?_ | refine prn_q rfl (qt_indexN tok rfl rfl rfl rfl (fun _ => by omega)) (by decide +kernel) rfl rfl rfl ?_ | refine prn_g rfl rfl rfl (qt_indexN tok rfl rfl rfl rfl (fun _ => by omega)) (by decide +kernel) rfl rfl rfl rfl rfl ?_ | refine prn_q rfl (qt_ldM tok rfl hbd rfl) (by decide +kernel) rfl rfl rfl ?_ | refine prn_g rfl rfl rfl (qt_ldM tok rfl hbd rfl) (by decide +kernel) rfl rfl rfl rfl rfl ?_ | refine prn_q rfl (qt_ldM0 tok rfl hbd rfl) (by decide +kernel) rfl rfl rfl ?_ | refine prn_g rfl rfl rfl (qt_ldM0 tok rfl hbd rfl) (by decide +kernel) rfl rfl rfl rfl rfl ?_ | refine prn_q rfl (qt_ldM tok rfl hbn rfl) (by decide +kernel) rfl rfl rfl ?_ | refine prn_g rfl rfl rfl (qt_ldM tok rfl hbn rfl) (by decide +kernel) rfl rfl rfl rfl rfl ?_ | refine prn_q rfl (qt_ldM0 tok rfl hbn rfl) (by decide +kernel) rfl rfl rfl ?_ | refine prn_g rfl rfl rfl (qt_ldM0 tok rfl hbn rfl) (by decide +kernel) rfl rfl rfl rfl rfl ?_)
  refine run_cond (t := decide ((n : Int) < 0) || decide ((n : Int) > (x.s.size : Int))) rfl (fun h => ?_) (fun h => ?_)
  · have h0 : x.s.size < n := by simp at h; omega
    rw [if_pos h0] at hC
    repeat (first | refine zz ?_ | refine zx fun _ => ?_)
    exact run_ret hC (rs := [.tmp 2]) rfl (resT rfl resN) (fun _ h => h) ⟨Mem.le_refl _, a, cap, rfl, rfl, hv⟩
  · have h0 : ¬ x.s.size < n := by simp at h; omega
    rw [if_neg h0] at hC
    refine run_skip ?_
    refine run_seq ?_
    refine prn_start mixed ?_
    repeat (first | refine dq ?_ | refine dg ?_ | refine prn_q rfl (qt_indexN tok rfl rfl rfl rfl (fun _ => by omega)) (by decide +kernel) rfl rfl rfl ?_ | refine prn_g rfl rfl rfl (qt_indexN tok rfl rfl rfl rfl (fun _ => by omega)) (by decide +kernel) rfl rfl rfl rfl rfl ?_ | refine prn_q rfl (qt_ldM tok rfl hbd rfl) (by decide +kernel) rfl rfl rfl ?_ | refine prn_g rfl rfl rfl (qt_ldM tok rfl hbd rfl) (by decide +kernel) rfl rfl rfl rfl rfl ?_ | refine prn_q rfl (qt_ldM0 tok rfl hbd rfl) (by decide +kernel) rfl rfl rfl ?_ | refine prn_g rfl rfl rfl (qt_ldM0 tok rfl hbd rfl) (by decide +kernel) rfl rfl rfl rfl rfl ?_ | refine prn_q rfl (qt_ldM tok rfl hbn rfl) (by decide +kernel) rfl rfl rfl ?_ | refine prn_g rfl rfl rfl (qt_ldM tok rfl hbn rfl) (by decide +kernel) rfl rfl rfl rfl rfl ?_ | refine prn_q rfl (qt_ldM0 tok rfl hbn rfl) (by decide +kernel) rfl rfl rfl ?_ | refine prn_g rfl rfl rfl (qt_ldM0 tok rfl hbn rfl) (by decide +kernel) rfl rfl rfl rfl rfl ?_ | refine pq rfl (qt_slice3 (n := n) tok rfl rfl rfl rfl rfl (fun _ => by omega)) ?_)
    refine prn_o0 rfl (sst tok rfl rfl rfl rfl rfl) (by decide +kernel) ?_
    rintro _ _ _ ⟨rfl, rfl, rfl⟩
    refine ⟨by (repeat (first | exact trivial | refine And.intro (pend_q rfl rfl rfl (qt_pev tok rfl)) ?_ | refine And.intro (pend_q rfl rfl rfl (ql tok rfl)) ?_ | refine And.intro (pend_q rfl rfl rfl (qt_ldM (k := 0) tok rfl hbd rfl)) ?_ | refine And.intro (pend_q rfl rfl rfl (qt_ldM (k := 0) tok rfl hbn rfl)) ?_)), ?_⟩
    repeat (first | refine dz ?_ | refine dx fun _ => ?_)
    refine prn_end (by decide +kernel) ?_
    repeat (first | refine zz ?_ | refine zx fun _ => ?_)
    have hsz := ext0_size (s := x.s) (n := n) (by omega)
    refine run_ret hC (rs := [.tmp 2]) rfl (resT rfl resN) (fun _ h => h) ⟨Mem.le_refl _, subA 1 a n 0, n, rfl, ?_, hv.take (by omega)⟩
    show _ = (b, Obj.cells ⟨[.slice (subA 1 a n 0) (x.s.extract 0 n).size n, iv n, .bool x.armed, .bool x.down, iv x.left, iv x.room]⟩ _ _) :: L
    rw [hsz]
theorem dkCut_ok (M : Mem) (L : HL) (b n : Nat) (x : Ds) (a : Option Addr) (cap : Nat) (hx : DsOk x) (hv : BV M a cap x.s) (hl : x.left < 9223372036854775808) :
    Tr Tryz.prog 40 [pt b, iv n] M (dkB b x a cap :: L) (DkK (dCut x n) M b L) := by
  refine Tr.intro 8 Tryz.func40 rfl rfl Tryz.call40 rfl ?_
  intro C hC hro
  refine run_seq ?_
  (refine run_region ?_; (repeat (first | refine zq ?_ | refine zx fun _ => ?_)); refine runL_nil ?_)
  rename_i bd bn
  refine run_frz 1 rfl ?_
  intro M1 hM1 hb1
  refine run_frz 0 rfl ?_
  intro M2 hM2 hb2
  refine run_mem (L' := dkB b x a cap :: L) (fun _ h => h) ?_
  have hc1 := (Cells.ofBlk hb1).le hM2
  have hc2 := Cells.ofBlk hb2
  have hv2 := hv.mono (Mem.le_trans hM1 hM2)
  repeat (first | refine zz ?_ | refine zx fun _ => ?_ | refine runL_q (qt_indexN tok rfl rfl rfl rfl (fun _ => by omega)) rfl rfl rfl ?_ | refine runL_g rfl rfl (qt_indexN tok rfl rfl rfl rfl (fun _ => by omega)) rfl rfl rfl rfl rfl ?_ | refine runL_q (qt_ldM tok rfl hc1 rfl) rfl rfl rfl ?_ | refine runL_g rfl rfl (qt_ldM tok rfl hc1 rfl) rfl rfl rfl rfl rfl ?_ | refine runL_q (qt_ldM0 tok rfl hc1 rfl) rfl rfl rfl ?_ | refine runL_g rfl rfl (qt_ldM0 tok rfl hc1 rfl) rfl rfl rfl rfl rfl ?_)
  refine ro (st_callF rfl (fun _ => dkWrite_ok M2 L b x a cap _ _ (if x.s.size < n then (2, x) else (0, { x with s := x.s.extract 0 n, syn := n })) hx hv2 (by split <;> exact ⟨rfl, rfl, hl⟩) (dkCut1_ok M2 L b bd bn n x a cap hv2 hc1 hc2))) ?_
  rintro _ M3 _ ⟨hM3, a3, c3, rfl, rfl, hv3⟩
  repeat (first | refine zz ?_ | refine zx fun _ => ?_)
  exact run_ret hC (rs := [.tmp 4]) rfl (resT rfl resN) (fun _ h => h) ⟨Mem.le_trans hM1 (Mem.le_trans hM2 hM3), a3, c3, rfl, rfl, hv3⟩
end Go.Proofs.YtkjljcgbnikmkaaGreatDoor
namespace Go.Proofs.YtkjljcgbnikmkaaGreatDoor
open Go.Chi
set_option maxRecDepth 10000
theorem bC_app (a b : ByteArray) : bC (a ++ b).data.toList = bC a.data.toList ++ bC b.data.toList := by
  unfold bC; rw [ba_app, List.map_append]
theorem upd_same {L L' : HL} {b : Nat} {o : Obj} (h : Upd L b o o L') : L' = L := by
  obtain ⟨A, B, rfl, rfl⟩ := h; rfl
theorem st_copyBV {ro : Option Nat} {σ : Env} {δ : Den} {cur : Path} {M : Mem} {L L' : HL} {d : Option Nat} {ty : TypeId} {pos : String} {aft : Array Edge} {g : Option (Nat × Bool)} {x y : Operand} {a : Option Addr} {cap bn n : Nat} {s : ByteArray} {cs : List Value} {et : TypeId}
    (hx : ev σ δ cur x = some (.slice (some ⟨bn, 0, none⟩) n n)) (hy : ev σ δ cur y = some (.slice a s.size cap)) (hv : BV M a cap s) (hn : s.size ≤ n) (hl : cs.length = n) (hu : Upd L bn (.cells ⟨cs⟩ et (0, 0)) (.cells ⟨setSeg cs 0 (bC s.data.toList)⟩ et (0, 0)) L') :
    St Tryz.prog ro ⟨d, .call ⟨.builtin .copy, #[x, y], #[75, 75]⟩, ty, pos, aft, g⟩ σ δ cur M L (fun v' M' L'' => v' = iv s.size ∧ M = M' ∧ L'' = L') := by
  have hbl : (bC s.data.toList).length = s.size := by rw [bC_len, ba_len]
  rcases hv.at_ with ⟨rfl, h0⟩ | ⟨b, off, rfl, hc⟩
  · have hnil : bC s.data.toList = [] := List.length_eq_zero_iff.1 (by rw [hbl, h0])
    rw [hnil] at hu
    have hss : setSeg cs 0 [] = cs := by simp [setSeg]
    rw [hss] at hu
    have := upd_same hu
    subst this
    refine (qt_copy0 tok hx hy rfl rfl (fun _ => by rw [h0]; exact Nat.zero_min _)).mono ?_
    rintro _ _ _ ⟨rfl, rfl, rfl⟩
    exact ⟨by rw [h0]; rfl, rfl, rfl⟩
  · refine (st_copy tok hx hy rfl rfl (Cells.ofM hc) (by rw [hbl]; exact (Nat.min_eq_left hn).symm) (by rw [hbl]; omega) (bC_one _) hu).mono ?_
    rintro _ _ _ ⟨rfl, rfl, rfl⟩
    exact ⟨by rw [hbl], rfl, rfl⟩
theorem app_cells {cs0 : List Value} (s t : ByteArray) (hl : cs0.length = s.size + t.size) : setSeg (setSeg cs0 0 (bC s.data.toList)) (if t.size = 0 then 0 else s.size * 1) (bC (t.data.toList.take (min t.size (s.size + t.size - s.size)))) = bC (s ++ t).data.toList := by
  have hb : (bC s.data.toList).length = s.size := by rw [bC_len, ba_len]
  have ht : (bC t.data.toList).length = t.size := by rw [bC_len, ba_len]
  have e1 : setSeg cs0 0 (bC s.data.toList) = bC s.data.toList ++ cs0.drop s.size := by simp [setSeg, hb]
  rw [e1, List.take_of_length_le (by rw [ba_len]; omega), bC_app]
  split
  · rename_i h0
    have hn : bC t.data.toList = [] := List.length_eq_zero_iff.1 (by rw [ht, h0])
    rw [hn, List.drop_eq_nil_of_le (by omega)]
    simp [setSeg]
  · unfold setSeg
    rw [Nat.mul_one, ht, List.take_left' hb, List.drop_append, hb, List.drop_eq_nil_of_le (by rw [hb]; omega), List.drop_drop, show cs0.drop (s.size + (s.size + t.size - s.size)) = [] from List.drop_eq_nil_of_le (by omega)]
    simp
set_option maxHeartbeats 8000000 in
theorem dkApp1_ok (M : Mem) (L : HL) (b bd bs : Nat) (t : ByteArray) (x : Ds) (a : Option Addr) (cap : Nat) (hx : DsOk x) (hv : BV M a cap x.s) (ht : t.size < 1000000000) (hbd : Cells M [] bd 0 [pt b]) (hbs : Cells M [] bs 0 [.string t]) :
    Tr Tryz.prog 57 [pt bs, pt bd] M (dkB b x a cap :: L) (DkK (if x.room - x.s.size < t.size then (4, x) else (0, { x with s := x.s ++ t })) M b L) := by
  have h1 := hx.fit
  have h2 := hx.room
  have e1 : IntKind.i64.wrap ((x.room : Int) - (x.s.size : Int)) = ((x.room - x.s.size : Nat) : Int) := by
    rw [show (x.room : Int) - (x.s.size : Int) = ((x.room - x.s.size : Nat) : Int) by omega]; exact wrap64_nat (by omega)
  have e2 : IntKind.i64.wrap ((x.s.size : Int) + (t.size : Int)) = ((x.s.size + t.size : Nat) : Int) := by
    rw [show (x.s.size : Int) + (t.size : Int) = ((x.s.size + t.size : Nat) : Int) by omega]; exact wrap64_nat (by omega)
  have htl : t.data.toList.length = t.size := ba_len t
  have hsl : x.s.data.toList.length = x.s.size := ba_len x.s
  refine Tr.intro 50 Tryz.func57 rfl rfl Tryz.call57 rfl ?_
  intro C hC hro
  repeat (first | refine zz ?_ | refine zx fun _ => ?_ | refine dd ?_ | refine dz ?_ | refine dx fun _ => ?_ | refine prn_q rfl (qt_indexN tok rfl rfl rfl rfl (fun _ => by omega)) (by decide +kernel) rfl rfl rfl ?_ | refine prn_g rfl rfl rfl (qt_indexN tok rfl rfl rfl rfl (fun _ => by omega)) (by decide +kernel) rfl rfl rfl rfl rfl ?_ | refine prn_q rfl (qt_ldM tok rfl hbd rfl) (by decide +kernel) rfl rfl rfl ?_ | refine prn_g rfl rfl rfl (qt_ldM tok rfl hbd rfl) (by decide +kernel) rfl rfl rfl rfl rfl ?_ | refine prn_q rfl (qt_ldM0 tok rfl hbd rfl) (by decide +kernel) rfl rfl rfl ?_ | refine prn_g rfl rfl rfl (qt_ldM0 tok rfl hbd rfl) (by decide +kernel) rfl rfl rfl rfl rfl ?_ | refine prn_q rfl (qt_ldM tok rfl hbs rfl) (by decide +kernel) rfl rfl rfl ?_ | refine prn_g rfl rfl rfl (qt_ldM tok rfl hbs rfl) (by decide +kernel) rfl rfl rfl rfl rfl ?_ | refine prn_q rfl (qt_ldM0 tok rfl hbs rfl) (by decide +kernel) rfl rfl rfl ?_ | refine prn_g rfl rfl rfl (qt_ldM0 tok rfl hbs rfl) (by decide +kernel) rfl rfl rfl rfl rfl ?_)
  refine run_cond (t := decide ((t.size : Int) > IntKind.i64.wrap ((x.room : Int) - (x.s.size : Int)))) rfl (fun h => ?_) (fun h => ?_)
  · rw [e1] at h
    have h0 : x.room - x.s.size < t.size := by simp at h; omega
    rw [if_pos h0] at hC
    repeat (first | refine zz ?_ | refine zx fun _ => ?_)
    exact run_ret hC (rs := [.tmp 2]) rfl (resT rfl resN) (fun _ h => h) ⟨Mem.le_refl _, a, cap, rfl, rfl, hv⟩
  rw [e1] at h
  have h0 : ¬ x.room - x.s.size < t.size := by simp at h; omega
  rw [if_neg h0] at hC
  refine run_skip ?_
  refine run_seq ?_
  refine prn_start mixed ?_
  repeat (first | refine dq ?_ | refine dg ?_ | refine prn_q rfl (qt_indexN tok rfl rfl rfl rfl (fun _ => by omega)) (by decide +kernel) rfl rfl rfl ?_ | refine prn_g rfl rfl rfl (qt_indexN tok rfl rfl rfl rfl (fun _ => by omega)) (by decide +kernel) rfl rfl rfl rfl rfl ?_ | refine prn_q rfl (qt_ldM tok rfl hbd rfl) (by decide +kernel) rfl rfl rfl ?_ | refine prn_g rfl rfl rfl (qt_ldM tok rfl hbd rfl) (by decide +kernel) rfl rfl rfl rfl rfl ?_ | refine prn_q rfl (qt_ldM0 tok rfl hbd rfl) (by decide +kernel) rfl rfl rfl ?_ | refine prn_g rfl rfl rfl (qt_ldM0 tok rfl hbd rfl) (by decide +kernel) rfl rfl rfl rfl rfl ?_ | refine prn_q rfl (qt_ldM tok rfl hbs rfl) (by decide +kernel) rfl rfl rfl ?_ | refine prn_g rfl rfl rfl (qt_ldM tok rfl hbs rfl) (by decide +kernel) rfl rfl rfl rfl rfl ?_ | refine prn_q rfl (qt_ldM0 tok rfl hbs rfl) (by decide +kernel) rfl rfl rfl ?_ | refine prn_g rfl rfl rfl (qt_ldM0 tok rfl hbs rfl) (by decide +kernel) rfl rfl rfl rfl rfl ?_)
  refine pr_as 26 (iv (x.s.size + t.size)) rfl (congrArg (Value.int .i64) e2) ?_
  refine pe rfl (st_makeSlice (n := x.s.size + t.size) tok rfl rfl rfl rfl rfl rfl rfl (by omega) (by omega)) ?_
  rintro _ _ _ ⟨bn, rfl, rfl, rfl⟩
  refine dq ?_
  refine prn_end (by decide +kernel) ?_
  generalize hcs : List.replicate (x.s.size + t.size) (Value.int .u8 0) = cs0
  have hl0 : cs0.length = x.s.size + t.size := by rw [← hcs]; simp
  -- the old bytes
  refine run_seq ?_
  refine run_region ?_
  repeat (first | refine wq ?_ | refine wg ?_ | refine runL_q (qt_indexN tok rfl rfl rfl rfl (fun _ => by omega)) rfl rfl rfl ?_ | refine runL_g rfl rfl (qt_indexN tok rfl rfl rfl rfl (fun _ => by omega)) rfl rfl rfl rfl rfl ?_ | refine runL_q (qt_ldM tok rfl hbd rfl) rfl rfl rfl ?_ | refine runL_g rfl rfl (qt_ldM tok rfl hbd rfl) rfl rfl rfl rfl rfl ?_ | refine runL_q (qt_ldM0 tok rfl hbd rfl) rfl rfl rfl ?_ | refine runL_g rfl rfl (qt_ldM0 tok rfl hbd rfl) rfl rfl rfl rfl rfl ?_)
  refine ro (st_copyBV rfl rfl hv (by omega) hl0 (Upd.here _ _ _ _)) ?_
  rintro _ _ _ ⟨rfl, rfl, rfl⟩
  refine runL_nil ?_
  have hsub : subA 1 (some ⟨bn, 0, none⟩) (x.s.size + t.size) x.s.size = some ⟨bn, if t.size = 0 then 0 else x.s.size * 1, none⟩ := by
    unfold subA
    by_cases h3 : t.size = 0
    · rw [if_pos (by omega), if_pos h3]
    · rw [if_neg (by omega), if_neg h3]; simp [add_none]
  have hfin := app_cells x.s t hl0
  have hl2 : (setSeg cs0 0 (bC x.s.data.toList)).length = x.s.size + t.size := by
    simp [setSeg, bC_len, hsl, hl0]
  refine run_seq ?_
  refine prn_start mixed ?_
  repeat (first | refine dq ?_ | refine dg ?_ | refine prn_q rfl (qt_indexN tok rfl rfl rfl rfl (fun _ => by omega)) (by decide +kernel) rfl rfl rfl ?_ | refine prn_g rfl rfl rfl (qt_indexN tok rfl rfl rfl rfl (fun _ => by omega)) (by decide +kernel) rfl rfl rfl rfl rfl ?_ | refine prn_q rfl (qt_ldM tok rfl hbd rfl) (by decide +kernel) rfl rfl rfl ?_ | refine prn_g rfl rfl rfl (qt_ldM tok rfl hbd rfl) (by decide +kernel) rfl rfl rfl rfl rfl ?_ | refine prn_q rfl (qt_ldM0 tok rfl hbd rfl) (by decide +kernel) rfl rfl rfl ?_ | refine prn_g rfl rfl rfl (qt_ldM0 tok rfl hbd rfl) (by decide +kernel) rfl rfl rfl rfl rfl ?_ | refine prn_q rfl (qt_ldM tok rfl hbs rfl) (by decide +kernel) rfl rfl rfl ?_ | refine prn_g rfl rfl rfl (qt_ldM tok rfl hbs rfl) (by decide +kernel) rfl rfl rfl rfl rfl ?_ | refine prn_q rfl (qt_ldM0 tok rfl hbs rfl) (by decide +kernel) rfl rfl rfl ?_ | refine prn_g rfl rfl rfl (qt_ldM0 tok rfl hbs rfl) (by decide +kernel) rfl rfl rfl rfl rfl ?_ | refine pq rfl (Qt.as (v' := .slice (some ⟨bn, if t.size = 0 then 0 else x.s.size * 1, none⟩) (x.s.size + t.size - x.s.size) (x.s.size + t.size - x.s.size)) (qt_sliceLo (n := x.s.size) tok rfl rfl rfl rfl (fun _ => by omega)) (by rw [hsub])) ?_)
  refine pe rfl (st_copyStr (cs := setSeg cs0 0 (bC x.s.data.toList)) tok rfl rfl rfl rfl (by rw [hl2]; split <;> omega) (Upd.here _ _ _ _)) ?_
  rintro _ _ _ ⟨rfl, rfl, rfl⟩
  rw [hfin]
  refine prn_end (by decide +kernel) ?_
  repeat (first | refine zz ?_ | refine zx fun _ => ?_ | refine runL_q (qt_indexN tok rfl rfl rfl rfl (fun _ => by omega)) rfl rfl rfl ?_ | refine runL_g rfl rfl (qt_indexN tok rfl rfl rfl rfl (fun _ => by omega)) rfl rfl rfl rfl rfl ?_ | refine runL_q (qt_ldM tok rfl hbd rfl) rfl rfl rfl ?_ | refine runL_g rfl rfl (qt_ldM tok rfl hbd rfl) rfl rfl rfl rfl rfl ?_ | refine runL_q (qt_ldM0 tok rfl hbd rfl) rfl rfl rfl ?_ | refine runL_g rfl rfl (qt_ldM0 tok rfl hbd rfl) rfl rfl rfl rfl rfl ?_)
  refine run_frz 0 rfl ?_
  intro M1 hM1 hbn
  refine run_ret hC (rs := [.tmp 2]) rfl (resT rfl resN) (fun _ h => h) ⟨hM1, some ⟨bn, 0, none⟩, x.s.size + t.size, rfl, ?_, by show (x.s ++ t).size ≤ _; rw [app_size]; exact Nat.le_refl _, by omega, .inr ⟨bn, 0, rfl, Cells.ofBlk hbn⟩⟩
  show _ = (b, Obj.cells ⟨[.slice (some ⟨bn, 0, none⟩) (x.s ++ t).size (x.s.size + t.size), iv x.syn, .bool x.armed, .bool x.down, iv x.left, iv x.room]⟩ _ _) :: L
  rw [app_size]
  rfl
theorem dkApp_ok (M : Mem) (L : HL) (b : Nat) (t : ByteArray) (x : Ds) (a : Option Addr) (cap : Nat) (hx : DsOk x) (hv : BV M a cap x.s) (ht : t.size < 1000000000) (hl : x.left < 9223372036854775808) :
    Tr Tryz.prog 27 [pt b, .string t] M (dkB b x a cap :: L) (DkK (dApp x t) M b L) := by
  refine Tr.intro 8 Tryz.func27 rfl rfl Tryz.call27 rfl ?_
  intro C hC hro
  refine run_seq ?_
  (refine run_region ?_; (repeat (first | refine zq ?_ | refine zx fun _ => ?_)); refine runL_nil ?_)
  rename_i bd bs
  refine run_frz 1 rfl ?_
  intro M1 hM1 hb1
  refine run_frz 0 rfl ?_
  intro M2 hM2 hb2
  refine run_mem (L' := dkB b x a cap :: L) (fun _ h => h) ?_
  have hc1 := (Cells.ofBlk hb1).le hM2
  have hc2 := Cells.ofBlk hb2
  have hv2 := hv.mono (Mem.le_trans hM1 hM2)
  repeat (first | refine zz ?_ | refine zx fun _ => ?_ | refine runL_q (qt_indexN tok rfl rfl rfl rfl (fun _ => by omega)) rfl rfl rfl ?_ | refine runL_g rfl rfl (qt_indexN tok rfl rfl rfl rfl (fun _ => by omega)) rfl rfl rfl rfl rfl ?_ | refine runL_q (qt_ldM tok rfl hc1 rfl) rfl rfl rfl ?_ | refine runL_g rfl rfl (qt_ldM tok rfl hc1 rfl) rfl rfl rfl rfl rfl ?_ | refine runL_q (qt_ldM0 tok rfl hc1 rfl) rfl rfl rfl ?_ | refine runL_g rfl rfl (qt_ldM0 tok rfl hc1 rfl) rfl rfl rfl rfl rfl ?_)
  refine ro (st_callF rfl (fun _ => dkWrite_ok M2 L b x a cap _ _ (if x.room - x.s.size < t.size then (4, x) else (0, { x with s := x.s ++ t })) hx hv2 (by split <;> exact ⟨rfl, rfl, hl⟩) (dkApp1_ok M2 L b bd bs t x a cap hx hv2 ht hc1 hc2))) ?_
  rintro _ M3 _ ⟨hM3, a3, c3, rfl, rfl, hv3⟩
  repeat (first | refine zz ?_ | refine zx fun _ => ?_)
  exact run_ret hC (rs := [.tmp 4]) rfl (resT rfl resN) (fun _ h => h) ⟨Mem.le_trans hM1 (Mem.le_trans hM2 hM3), a3, c3, rfl, rfl, hv3⟩
end Go.Proofs.YtkjljcgbnikmkaaGreatDoor
namespace Go.Proofs.YtkjljcgbnikmkaaGreatDoor
open Go.Chi
set_option maxRecDepth 10000
theorem max0 (n : Int) : (if (0 : Int) > n then 0 else n) = (n.toNat : Int) := by split <;> omega
theorem dkArm_ok (M : Mem) (L : HL) (b : Nat) (n : Int) (x : Ds) (a : Option Addr) (cap : Nat) : Tr Tryz.prog 12 [pt b, .int .i64 n] M (dkB b x a cap :: L) (fun _ M' L' => M = M' ∧ L' = dkB b (dArm x n) a cap :: L) := by
  refine Tr.intro 16 Tryz.func12 rfl rfl Tryz.call12 rfl ?_
  intro C hC hro
  repeat (first | refine zz ?_ | refine zx fun _ => ?_)
  refine run_cond rfl (fun _ => ?_) (fun h => by cases h)
  repeat (first | refine zz ?_ | refine zx fun _ => ?_ | refine rq (Qt.as (v' := iv n.toNat) (qt_max2 rfl rfl) (congrArg (Value.int .i64) (max0 n))) ?_)
  exact run_end hC rfl (vs := []) trivial (fun _ h => h) ⟨rfl, rfl⟩
theorem dkDown_ok (M : Mem) (L : HL) (b : Nat) (x : Ds) (a : Option Addr) (cap : Nat) : TrQ Tryz.prog 32 [pt b] M (dkB b x a cap :: L) (.bool x.down) := by
  refine Tr.intro 12 Tryz.func32 rfl rfl Tryz.call32 rfl ?_
  intro C hC hro
  repeat (first | refine zz ?_ | refine zx fun _ => ?_)
  exact run_ret hC (rs := [.tmp 2]) rfl (resT rfl resN) (fun _ h => h) ⟨by simp [resVal], rfl, rfl⟩
theorem dkSynced_ok (M : Mem) (L : HL) (b : Nat) (x : Ds) (a : Option Addr) (cap : Nat) : TrQ Tryz.prog 31 [pt b] M (dkB b x a cap :: L) (iv x.syn) := by
  refine Tr.intro 10 Tryz.func31 rfl rfl Tryz.call31 rfl ?_
  intro C hC hro
  repeat (first | refine zz ?_ | refine zx fun _ => ?_)
  refine run_cond rfl (fun h => by cases h) (fun _ => ?_)
  repeat (first | refine zz ?_ | refine zx fun _ => ?_)
  exact run_ret hC (rs := [.tmp 2]) rfl (resT rfl resN) (fun _ h => h) ⟨rfl, rfl, rfl⟩
theorem dkLen_ok (M : Mem) (L : HL) (b : Nat) (x : Ds) (a : Option Addr) (cap : Nat) : TrQ Tryz.prog 37 [pt b] M (dkB b x a cap :: L) (iv x.s.size) := by
  refine Tr.intro 11 Tryz.func37 rfl rfl Tryz.call37 rfl ?_
  intro C hC hro
  repeat (first | refine zz ?_ | refine zx fun _ => ?_)
  refine run_cond rfl (fun h => by cases h) (fun _ => ?_)
  repeat (first | refine zz ?_ | refine zx fun _ => ?_)
  exact run_ret hC (rs := [.tmp 2]) rfl (resT rfl resN) (fun _ h => h) ⟨rfl, rfl, rfl⟩
theorem dkRoom_ok (M : Mem) (L : HL) (b : Nat) (x : Ds) (a : Option Addr) (cap : Nat) (hx : DsOk x) : TrQ Tryz.prog 51 [pt b] M (dkB b x a cap :: L) (iv (x.room - x.s.size)) := by
  have h1 := hx.fit
  have h2 := hx.room
  have e1 : IntKind.i64.wrap ((x.room : Int) - (x.s.size : Int)) = ((x.room - x.s.size : Nat) : Int) := by
    rw [show (x.room : Int) - (x.s.size : Int) = ((x.room - x.s.size : Nat) : Int) by omega]; exact wrap64_nat (by omega)
  refine Tr.intro 16 Tryz.func51 rfl rfl Tryz.call51 rfl ?_
  intro C hC hro
  repeat (first | refine zz ?_ | refine zx fun _ => ?_)
  refine run_cond rfl (fun h => by cases h) (fun _ => ?_)
  repeat (first | refine zz ?_ | refine zx fun _ => ?_ | refine dd ?_ | refine dz ?_ | refine dx fun _ => ?_)
  exact run_ret hC (rs := [.tmp 2]) rfl (resT rfl resN) (fun _ h => h) ⟨congrArg (Value.int .i64) e1, rfl, rfl⟩
theorem dkBytes_ok (M : Mem) (L : HL) (b : Nat) (x : Ds) (a : Option Addr) (cap : Nat) (hv : BV M a cap x.s) : TrQ Tryz.prog 30 [pt b] M (dkB b x a cap :: L) (.string x.s) := by
  refine Tr.intro 11 Tryz.func30 rfl rfl Tryz.call30 rfl ?_
  intro C hC hro
  repeat (first | refine zz ?_ | refine zx fun _ => ?_)
  refine run_cond rfl (fun h => by cases h) (fun _ => ?_)
  rcases hv.at_ with ⟨rfl, h0⟩ | ⟨bb, off, rfl, hc⟩
  · have e : x.s = ⟨#[]⟩ := size_zero h0
    repeat (first | refine zz ?_ | refine zx fun _ => ?_)
    refine runL_as 9 (.slice none 0 cap) rfl (by rw [h0]) ?_
    repeat (first | refine zz ?_ | refine zx fun _ => ?_ | refine rq (qt_bytesNil tok rfl rfl rfl rfl) ?_)
    exact run_ret hC (rs := [.tmp 2]) rfl (resT rfl resN) (fun _ h => h) ⟨by rw [e]; rfl, rfl, rfl⟩
  · repeat (first | refine zz ?_ | refine zx fun _ => ?_ | refine rq (qt_bytesT x.s rfl rfl rfl rfl (Cells.ofM hc) rfl) ?_)
    exact run_ret hC (rs := [.tmp 2]) rfl (resT rfl resN) (fun _ h => h) ⟨rfl, rfl, rfl⟩
theorem crashN_le {x : Ds} (hx : DsOk x) (keep : Int) : crashN x keep ≤ x.s.size := by
  have := hx.syn
  unfold crashN; split <;> omega
set_option maxHeartbeats 4000000 in
theorem dkCrash_ok (M : Mem) (L : HL) (b : Nat) (keep : Int) (x : Ds) (a : Option Addr) (cap : Nat) (hx : DsOk x) (hv : BV M a cap x.s) : Tr Tryz.prog 13 [pt b, .int .i64 keep] M (dkB b x a cap :: L) (fun _ M' L' => M = M' ∧ ∃ a' cap', L' = dkB b (dCrash x keep) a' cap' :: L ∧ BV M' a' cap' (dCrash x keep).s) := by
  have h1 := hx.syn
  have h2 := hx.fit
  have h3 := hx.room
  have hle := hv.le
  have hcn := crashN_le hx keep
  have e1 : IntKind.i64.wrap ((x.s.size : Int) - (x.syn : Int)) = ((x.s.size - x.syn : Nat) : Int) := by
    rw [show (x.s.size : Int) - (x.syn : Int) = ((x.s.size - x.syn : Nat) : Int) by omega]; exact wrap64_nat (by omega)
  refine Tr.intro 48 Tryz.func13 rfl rfl Tryz.call13 rfl ?_
  intro C hC hro
  repeat (first | refine zz ?_ | refine zx fun _ => ?_)
  refine run_cond rfl (fun h => by cases h) (fun _ => ?_)
  repeat (first | refine zz ?_ | refine zx fun _ => ?_ | refine rq (Qt.as (v' := iv keep.toNat) (qt_max2 rfl rfl) (congrArg (Value.int .i64) (max0 keep))) ?_)
  refine run_cut (fun σ' M' L' => M = M' ∧ L' = dkB b x a cap :: L ∧ σ' = [(4, iv (crashN x keep)), (0, pt b)]) ?_ ?_
  rotate_left
  · intro hmid
    refine run_cond (t := decide ((keep.toNat : Int) < IntKind.i64.wrap ((x.s.size : Int) - (x.syn : Int)))) rfl (fun h => ?_) (fun h => ?_)
    · rw [e1] at h
      have h0 : keep.toNat < x.s.size - x.syn := by simp at h; omega
      have e2 : IntKind.i64.wrap ((x.syn : Int) + (keep.toNat : Int)) = ((x.syn + keep.toNat : Nat) : Int) := wrap64_nat (n := x.syn + keep.toNat) (by omega)
      (refine run_region ?_; (repeat (first | refine zq ?_ | refine zx fun _ => ?_)); refine runL_nil ?_)
      exact run_sub' (hmid _ _ _ ⟨rfl, rfl, rfl⟩) ⟨by rw [crashN, if_pos h0]; exact congrArg (fun z => some (Value.int .i64 z)) e2, rfl, trivial⟩
    · rw [e1] at h
      have h0 : ¬ keep.toNat < x.s.size - x.syn := by simp at h; omega
      refine run_skip ?_
      exact run_sub' (hmid _ _ _ ⟨rfl, rfl, rfl⟩) ⟨by rw [crashN, if_neg h0]; rfl, rfl, trivial⟩
  rintro _ _ _ ⟨rfl, rfl, rfl⟩
  have hsz := ext0_size (s := x.s) (n := crashN x keep) hcn
  repeat (first | refine zz ?_ | refine zx fun _ => ?_ | refine rq (qt_slice3 (n := crashN x keep) tok rfl rfl rfl rfl rfl (fun _ => by omega)) ?_)
  refine run_end hC rfl (vs := []) trivial (fun _ h => h) ⟨rfl, subA 1 a (crashN x keep) 0, crashN x keep, ?_, hv.take hcn⟩
  show _ = (b, Obj.cells ⟨[.slice (subA 1 a (crashN x keep) 0) (x.s.extract 0 (crashN x keep)).size (crashN x keep), iv (crashN x keep), .bool false, .bool false, iv 0, iv x.room]⟩ _ _) :: L
  rw [hsz]
  rfl
end Go.Proofs.YtkjljcgbnikmkaaGreatDoor
namespace Go.Proofs.YtkjljcgbnikmkaaGreatDoor
open Go.Chi
set_option maxRecDepth 10000
set_option maxHeartbeats 4000000 in
theorem mayMb_ok (M : Mem) (L : HL) (t : Tx) (s : SMb) (hs : MbOk M s) (hd : ∀ m ∈ s.xs, m.digest.size < 4611686018427387904) : TrQ Tryz.prog 88 [.agg ⟨txC t⟩, s.v] M L (.bool (mayMb t s.xs)) := by
  have hx1 := hs.len
  have hlt6 := hs.2
  refine Tr.intro 48 Tryz.func88 rfl rfl Tryz.call88 rfl ?_
  intro C hC hro
  repeat (first | refine zz ?_ | refine zx fun _ => ?_)
  rename_i b2
  refine run_loopN (fun j σ1 M1 L1 => j ≤ s.len ∧ ∃ last, memGo t last (s.xs.drop j) = memGo t (-1) s.xs ∧ M = M1 ∧ L1 = (b2, .cells ⟨txC t⟩ 31 (0, 0)) :: L ∧ σ1 = [(10, .int .i64 (j : Int)), (9, .int .i64 (s.len : Int)), (8, s.v), (5, .int .i64 last), (1, s.v), (2, .pointer (some ⟨b2, 0, none⟩))]) s.len [(10, .int .i64 ((0 : Nat) : Int)), (9, .int .i64 (s.len : Int)), (8, s.v), (5, .int .i64 (-1)), (1, s.v), (2, .pointer (some ⟨b2, 0, none⟩))] ?_ ⟨Nat.zero_le _, -1, rfl, rfl, rfl, rfl⟩ (fun j _ _ _ h => h.1) ?_
  · exact ⟨rfl, rfl, rfl, rfl, rfl, rfl, trivial⟩
  rintro j _ _ _ ⟨hj, last, hgo, rfl, rfl, rfl⟩ hnext
  repeat (first | refine zz ?_ | refine zx fun _ => ?_)
  refine run_cond rfl (fun h => ?_) (fun h => ?_)
  · have hlt : j < s.len := by simpa using h
    obtain ⟨b, off, m, hma, hm, hc⟩ := SMb.at_ hs.1 hlt
    have hv : s.v = .slice (some ⟨b, off, none⟩) s.len s.cap := by rw [← hma]; rfl
    have hdr : s.xs.drop j = m :: s.xs.drop (j + 1) := by
      obtain ⟨hl, he⟩ := List.getElem?_eq_some_iff.1 hm
      rw [← he]; exact (List.getElem_cons_drop (h := hl)).symm
    rw [hdr, memGo] at hgo
    have hmd := hd m (List.mem_of_getElem? hm)
    refine run_as 8 (.slice (some ⟨b, off, none⟩) s.len s.cap) rfl hv ?_
    repeat (first | refine zz ?_ | refine zx fun _ => ?_ | refine runL_q (qt_indexN tok rfl rfl rfl rfl (fun _ => by omega)) rfl rfl rfl ?_ | refine runL_g rfl rfl (qt_indexN tok rfl rfl rfl rfl (fun _ => by omega)) rfl rfl rfl rfl rfl ?_ | refine runL_q (qt_ldM tok rfl hc rfl) rfl rfl rfl ?_ | refine runL_g rfl rfl (qt_ldM tok rfl hc rfl) rfl rfl rfl rfl rfl ?_ | refine runL_q (qt_ldM0 tok rfl hc rfl) rfl rfl rfl ?_ | refine runL_g rfl rfl (qt_ldM0 tok rfl hc rfl) rfl rfl rfl rfl rfl ?_ | refine runL_q (qt_callF rfl (fun _ => worg_ok _ _ _)) rfl rfl rfl ?_ | refine runL_g rfl rfl (qt_callF rfl (fun _ => check_ok _ _ _ hmd)) rfl rfl rfl rfl rfl ?_)
    refine run_cond rfl (fun h => ?_) (fun h => ?_)
    · repeat (first | refine zz ?_ | refine zx fun _ => ?_)
      refine run_ret hC (rs := [.tmp 4]) rfl (resT rfl resN) (fun _ h => h.drop.drop) ⟨?_, rfl, rfl⟩
      have hb : badM t last m = true := h
      rw [if_pos hb] at hgo
      rw [mayMb, ← hgo]; rfl
    · have hb : ¬ badM t last m = true := fun e => by rw [show badM t last m = false from h] at e; cases e
      rw [if_neg hb] at hgo
      repeat (first | refine zz ?_ | refine zx fun _ => ?_)
      exact run_mem (fun _ h => h.drop) (run_sub' (hnext _ _ _ ⟨hlt, m.org, hgo, rfl, rfl, rfl⟩) ⟨lk_succ rfl (by omega), rfl, by rw [hv]; rfl, rfl, rfl, rfl, trivial⟩)
  · have hge : j = s.len := by simp at h; omega
    rw [hge, List.drop_eq_nil_of_le (by omega)] at hgo
    repeat (first | refine zz ?_ | refine zx fun _ => ?_)
    refine run_ret hC (rs := [.tmp 4]) rfl (resT rfl resN) (fun _ h => h.drop) ⟨?_, rfl, rfl⟩
    rw [mayMb, ← hgo, hx1]; rfl
end Go.Proofs.YtkjljcgbnikmkaaGreatDoor
namespace Go.Proofs.YtkjljcgbnikmkaaGreatDoor
open Go.Chi
set_option maxRecDepth 10000
structure RcOk (M : Mem) (r : Rc) : Prop where
  mem : MbOk M r.mem
  tags : StOk M r.tags
  dig : ∀ m ∈ r.mem.xs, m.digest.size < 4611686018427387904
  tag : ∀ t ∈ r.tags.xs, t.size < 4611686018427387904
  body : r.body.size < 4611686018427387904
theorem rorg_ok (M : Mem) (L : HL) (n : Int) : TrQ Tryz.prog 87 [.int .i64 n] M L (.bool (orgW n)) := by
  refine Tr.intro 9 Tryz.func87 rfl rfl Tryz.call87 rfl ?_
  intro C hC hro
  repeat (first | refine zz ?_ | refine zx fun _ => ?_)
  exact run_ret hC (rs := [.tmp 2]) rfl (resT rfl resN) (fun _ h => h) ⟨rfl, rfl, rfl⟩
def fullR (r : Rc) : Bool := (r.kind == 2) || ((r.kind == 3) && r.yes)
theorem full_ok (M : Mem) (L : HL) (r : Rc) : TrQ Tryz.prog 86 [.agg ⟨rcC r⟩] M L (.bool (fullR r)) := by
  refine Tr.intro 15 Tryz.func86 rfl rfl Tryz.call86 rfl ?_
  intro C hC hro
  repeat (first | refine zz ?_ | refine zx fun _ => ?_)
  exact run_ret hC (rs := [.tmp 2]) rfl (resT rfl resN) (fun _ h => h.drop) ⟨rfl, rfl, rfl⟩
def isT (t : ByteArray) : Bool := checkR t == 0
theorem isTerm_ok (M : Mem) (L : HL) (t : ByteArray) (ht : t.size < 4611686018427387904) : TrQ Tryz.prog 91 [.string t] M L (.bool (isT t)) := by
  refine Tr.intro 6 Tryz.func91 rfl rfl Tryz.call91 rfl ?_
  intro C hC hro
  repeat (first | refine zz ?_ | refine zx fun _ => ?_ | refine runL_q (qt_callF rfl (fun _ => check_ok _ _ t ht)) rfl rfl rfl ?_)
  exact run_ret hC (rs := [.tmp 2]) rfl (resT rfl resN) (fun _ h => h) ⟨rfl, rfl, rfl⟩
theorem check1_ok (M : Mem) (L : HL) (t : ByteArray) (ht : t.size < 4611686018427387904) : TrQ Tryz.prog 90 [.string t] M L (.bool (!isT t)) := by
  refine Tr.intro 6 Tryz.func90 rfl rfl Tryz.call90 rfl ?_
  intro C hC hro
  repeat (first | refine zz ?_ | refine zx fun _ => ?_ | refine runL_q (qt_callF rfl (fun _ => isTerm_ok _ _ t ht)) rfl rfl rfl ?_)
  exact run_ret hC (rs := [.tmp 2]) rfl (resT rfl resN) (fun _ h => h) ⟨rfl, rfl, rfl⟩
set_option maxHeartbeats 4000000 in
theorem indexF_ok (M : Mem) (L : HL) (s : SStr) (hs : StOk M s) (f : Nat) (p : ByteArray → Bool) (hf : ∀ m ∈ s.xs, TrQ Tryz.prog f [.string m] M L (.bool (p m))) :
    Tr Tryz.prog 119 [s.v, fv f] M L (fun v M' L' => ∃ n : Int, v = .int .i64 n ∧ decide (n ≥ 0) = s.xs.any p ∧ M' = M ∧ L' = L) := by
  have hx1 := hs.len
  have hlt6 := hs.2
  refine Tr.intro 19 Tryz.func119 rfl rfl Tryz.call119 rfl ?_
  intro C hC hro
  repeat (first | refine zz ?_ | refine zx fun _ => ?_)
  refine run_loopN (fun j σ1 M1 L1 => j ≤ s.len ∧ M = M1 ∧ L = L1 ∧ ((s.xs.take j).any p) = false ∧ σ1 = [(8, .int .i64 (j : Int)), (7, .int .i64 (s.len : Int)), (0, s.v), (1, fv f)]) s.len [(8, .int .i64 ((0 : Nat) : Int)), (7, .int .i64 (s.len : Int)), (0, s.v), (1, fv f)] ?_ ⟨Nat.zero_le _, rfl, rfl, by simp, rfl⟩ (fun j _ _ _ h => h.1) ?_
  · exact ⟨rfl, rfl, rfl, rfl, trivial⟩
  rintro j _ _ _ ⟨hj, rfl, rfl, hpre, rfl⟩ hnext
  repeat (first | refine zz ?_ | refine zx fun _ => ?_)
  refine run_cond rfl (fun h => ?_) (fun h => ?_)
  · have hlt : j < s.len := by simpa using h
    obtain ⟨b, off, m, hma, hm, hc⟩ := SStr.at_ hs.1 hlt
    have hv : s.v = .slice (some ⟨b, off, none⟩) s.len s.cap := by rw [← hma]; rfl
    refine run_as 0 (.slice (some ⟨b, off, none⟩) s.len s.cap) rfl hv ?_
    repeat (first | refine zz ?_ | refine zx fun _ => ?_ | refine runL_q (qt_indexN tok rfl rfl rfl rfl (fun _ => by omega)) rfl rfl rfl ?_ | refine runL_g rfl rfl (qt_indexN tok rfl rfl rfl rfl (fun _ => by omega)) rfl rfl rfl rfl rfl ?_ | refine runL_q (qt_ldM tok rfl hc rfl) rfl rfl rfl ?_ | refine runL_g rfl rfl (qt_ldM tok rfl hc rfl) rfl rfl rfl rfl rfl ?_ | refine runL_q (qt_ldM0 tok rfl hc rfl) rfl rfl rfl ?_ | refine runL_g rfl rfl (qt_ldM0 tok rfl hc rfl) rfl rfl rfl rfl rfl ?_)
    refine runL_q (st_callV rfl rfl (fun _ => hf m (List.mem_of_getElem? hm))) rfl rfl rfl ?_
    repeat (first | refine zz ?_ | refine zx fun _ => ?_)
    refine run_cond rfl (fun h => ?_) (fun h => ?_)
    · repeat (first | refine zz ?_ | refine zx fun _ => ?_)
      exact run_ret hC (rs := [.tmp 4]) rfl (resT rfl resN) (fun _ h => h) ⟨j, rfl, by rw [any_true p hm h]; simp, rfl, rfl⟩
    · repeat (first | refine zz ?_ | refine zx fun _ => ?_)
      exact run_sub' (hnext _ _ _ ⟨hlt, rfl, rfl, by rw [any_snoc _ hm hpre]; exact h, rfl⟩) ⟨lk_succ rfl (by omega), rfl, by rw [hv]; rfl, rfl, trivial⟩
  · have hge : j = s.len := by simp at h; omega
    rw [hge, List.take_of_length_le (by omega)] at hpre
    repeat (first | refine zz ?_ | refine zx fun _ => ?_)
    exact run_ret hC (rs := [.tmp 4]) rfl (resT rfl resN) (fun _ h => h) ⟨-1, rfl, by rw [hpre]; rfl, rfl, rfl⟩
theorem containsF_ok (M : Mem) (L : HL) (s : SStr) (hs : StOk M s) (f : Nat) (p : ByteArray → Bool) (hf : ∀ m ∈ s.xs, TrQ Tryz.prog f [.string m] M L (.bool (p m))) :
    TrQ Tryz.prog 89 [s.v, fv f] M L (.bool (s.xs.any p)) := by
  refine Tr.intro 9 Tryz.func89 rfl rfl Tryz.call89 rfl ?_
  intro C hC hro
  repeat (first | refine zz ?_ | refine zx fun _ => ?_ | (refine runL_op (st_callF rfl (fun _ => indexF_ok _ _ s hs f p hf)) rfl rfl rfl ?_; rintro _ _ _ ⟨n, rfl, hn, rfl, rfl⟩))
  exact run_ret hC (rs := [.tmp 4]) rfl (resT rfl resN) (fun _ h => h) ⟨by rw [← hn]; rfl, rfl, rfl⟩
end Go.Proofs.YtkjljcgbnikmkaaGreatDoor
namespace Go.Proofs.YtkjljcgbnikmkaaGreatDoor
open Go.Chi
set_option maxRecDepth 10000
theorem mbEq_eq (m n : Mb) : (m.org == n.org && ((m.digest.toList == n.digest.toList) && true)) = decide (m = n) := by
  rw [bytes_beq, Bool.eq_iff_iff, decide_eq_true_eq, ← Mb.ext_iff']
  simp
set_option maxHeartbeats 4000000 in
theorem equal_ok (M : Mem) (L : HL) (s u : SMb) (hs : MbOk M s) (hu : MbOk M u) : TrQ Tryz.prog 115 [s.v, u.v] M L (.bool (decide (s.xs = u.xs))) := by
  have hx1 : s.xs.length = s.len := by have := hs.1.1; simpa using this
  have hy1 : u.xs.length = u.len := by have := hu.1.1; simpa using this
  have hlt6 := hs.2
  refine Tr.intro 26 Tryz.func115 rfl rfl Tryz.call115 rfl ?_
  intro C hC hro
  repeat (first | refine zz ?_ | refine zx fun _ => ?_)
  refine run_cond rfl (fun h => ?_) (fun h => ?_)
  · repeat (first | refine zz ?_ | refine zx fun _ => ?_)
    refine run_ret hC (rs := [.tmp 4]) rfl (resT rfl resN) (fun _ h => h) ⟨?_, rfl, rfl⟩
    rw [decide_eq_false (fun e => by
      have : s.len = u.len := by rw [← hx1, ← hy1, e]
      simp [this] at h)]
    rfl
  have hll : s.len = u.len := by simp at h; omega
  repeat (first | refine zz ?_ | refine zx fun _ => ?_)
  refine run_loopN (fun j σ1 M1 L1 => j ≤ s.len ∧ M = M1 ∧ L = L1 ∧ s.xs.take j = u.xs.take j ∧ σ1 = [(13, .int .i64 (j : Int)), (12, .int .i64 (s.len : Int)), (0, s.v), (1, u.v)]) s.len [(13, .int .i64 ((0 : Nat) : Int)), (12, .int .i64 (s.len : Int)), (0, s.v), (1, u.v)] ?_ ⟨Nat.zero_le _, rfl, rfl, by simp, rfl⟩ (fun j _ _ _ h => h.1) ?_
  · exact ⟨rfl, rfl, rfl, rfl, trivial⟩
  rintro j _ _ _ ⟨hj, rfl, rfl, hpre, rfl⟩ hnext
  repeat (first | refine zz ?_ | refine zx fun _ => ?_)
  refine run_cond rfl (fun h => ?_) (fun h => ?_)
  · have hlt : j < s.len := by simpa using h
    have hlt2 : j < u.len := by omega
    obtain ⟨b, off, m, ha, hm, hc⟩ := SMb.at_ hs.1 hlt
    obtain ⟨b2, off2, m2, ha2, hm2, hc2⟩ := SMb.at_ hu.1 hlt2
    have hv : s.v = .slice (some ⟨b, off, none⟩) s.len s.cap := by rw [← ha]; rfl
    have hv2 : u.v = .slice (some ⟨b2, off2, none⟩) u.len u.cap := by rw [← ha2]; rfl
    refine run_as 0 (.slice (some ⟨b, off, none⟩) s.len s.cap) rfl hv ?_
    refine run_as 1 (.slice (some ⟨b2, off2, none⟩) u.len u.cap) rfl hv2 ?_
    repeat (first | refine zz ?_ | refine zx fun _ => ?_ | refine dd ?_ | refine dz ?_ | refine dx fun _ => ?_ | refine prn_q rfl (qt_indexN tok rfl rfl rfl rfl (fun _ => by omega)) (by decide +kernel) rfl rfl rfl ?_ | refine prn_g rfl rfl rfl (qt_indexN tok rfl rfl rfl rfl (fun _ => by omega)) (by decide +kernel) rfl rfl rfl rfl rfl ?_ | refine prn_q rfl (qt_ldM tok rfl hc rfl) (by decide +kernel) rfl rfl rfl ?_ | refine prn_g rfl rfl rfl (qt_ldM tok rfl hc rfl) (by decide +kernel) rfl rfl rfl rfl rfl ?_ | refine prn_q rfl (qt_ldM0 tok rfl hc rfl) (by decide +kernel) rfl rfl rfl ?_ | refine prn_g rfl rfl rfl (qt_ldM0 tok rfl hc rfl) (by decide +kernel) rfl rfl rfl rfl rfl ?_ | refine prn_q rfl (qt_ldM tok rfl hc2 rfl) (by decide +kernel) rfl rfl rfl ?_ | refine prn_g rfl rfl rfl (qt_ldM tok rfl hc2 rfl) (by decide +kernel) rfl rfl rfl rfl rfl ?_ | refine prn_q rfl (qt_ldM0 tok rfl hc2 rfl) (by decide +kernel) rfl rfl rfl ?_ | refine prn_g rfl rfl rfl (qt_ldM0 tok rfl hc2 rfl) (by decide +kernel) rfl rfl rfl rfl rfl ?_)
    refine run_cond rfl (fun h => ?_) (fun h => ?_)
    · repeat (first | refine zz ?_ | refine zx fun _ => ?_)
      refine run_ret hC (rs := [.tmp 4]) rfl (resT rfl resN) (fun _ h => h) ⟨?_, rfl, rfl⟩
      rw [mbEq_eq] at h
      rw [decide_eq_false (fun e => by
        rw [e, hm2] at hm
        have := Option.some.inj hm
        simp [this] at h)]
      rfl
    · rw [mbEq_eq] at h
      have hmm : m = m2 := by simpa using h
      repeat (first | refine zz ?_ | refine zx fun _ => ?_)
      exact run_sub' (hnext _ _ _ ⟨hlt, rfl, rfl, by rw [take_snoc hm, take_snoc hm2, hpre, hmm], rfl⟩) ⟨lk_succ rfl (by omega), rfl, by rw [hv]; rfl, by rw [hv2]; rfl, trivial⟩
  · have hge : j = s.len := by simp at h; omega
    rw [hge, List.take_of_length_le (by omega), List.take_of_length_le (by omega)] at hpre
    repeat (first | refine zz ?_ | refine zx fun _ => ?_)
    refine run_ret hC (rs := [.tmp 4]) rfl (resT rfl resN) (fun _ h => h) ⟨?_, rfl, rfl⟩
    rw [decide_eq_true hpre]; rfl
theorem stEq_eq (m n : ByteArray) : (m.toList == n.toList) = decide (m = n) := bytes_beq m n
set_option maxHeartbeats 4000000 in
theorem equalS_ok (M : Mem) (L : HL) (s u : SStr) (hs : StOk M s) (hu : StOk M u) : TrQ Tryz.prog 116 [s.v, u.v] M L (.bool (decide (s.xs = u.xs))) := by
  have hx1 : s.xs.length = s.len := by have := hs.1.1; simpa using this
  have hy1 : u.xs.length = u.len := by have := hu.1.1; simpa using this
  have hlt6 := hs.2
  refine Tr.intro 26 Tryz.func116 rfl rfl Tryz.call116 rfl ?_
  intro C hC hro
  repeat (first | refine zz ?_ | refine zx fun _ => ?_)
  refine run_cond rfl (fun h => ?_) (fun h => ?_)
  · repeat (first | refine zz ?_ | refine zx fun _ => ?_)
    refine run_ret hC (rs := [.tmp 4]) rfl (resT rfl resN) (fun _ h => h) ⟨?_, rfl, rfl⟩
    rw [decide_eq_false (fun e => by
      have : s.len = u.len := by rw [← hx1, ← hy1, e]
      simp [this] at h)]
    rfl
  have hll : s.len = u.len := by simp at h; omega
  repeat (first | refine zz ?_ | refine zx fun _ => ?_)
  refine run_loopN (fun j σ1 M1 L1 => j ≤ s.len ∧ M = M1 ∧ L = L1 ∧ s.xs.take j = u.xs.take j ∧ σ1 = [(13, .int .i64 (j : Int)), (12, .int .i64 (s.len : Int)), (0, s.v), (1, u.v)]) s.len [(13, .int .i64 ((0 : Nat) : Int)), (12, .int .i64 (s.len : Int)), (0, s.v), (1, u.v)] ?_ ⟨Nat.zero_le _, rfl, rfl, by simp, rfl⟩ (fun j _ _ _ h => h.1) ?_
  · exact ⟨rfl, rfl, rfl, rfl, trivial⟩
  rintro j _ _ _ ⟨hj, rfl, rfl, hpre, rfl⟩ hnext
  repeat (first | refine zz ?_ | refine zx fun _ => ?_)
  refine run_cond rfl (fun h => ?_) (fun h => ?_)
  · have hlt : j < s.len := by simpa using h
    have hlt2 : j < u.len := by omega
    obtain ⟨b, off, m, ha, hm, hc⟩ := SStr.at_ hs.1 hlt
    obtain ⟨b2, off2, m2, ha2, hm2, hc2⟩ := SStr.at_ hu.1 hlt2
    have hv : s.v = .slice (some ⟨b, off, none⟩) s.len s.cap := by rw [← ha]; rfl
    have hv2 : u.v = .slice (some ⟨b2, off2, none⟩) u.len u.cap := by rw [← ha2]; rfl
    refine run_as 0 (.slice (some ⟨b, off, none⟩) s.len s.cap) rfl hv ?_
    refine run_as 1 (.slice (some ⟨b2, off2, none⟩) u.len u.cap) rfl hv2 ?_
    repeat (first | refine zz ?_ | refine zx fun _ => ?_ | refine dd ?_ | refine dz ?_ | refine dx fun _ => ?_ | refine prn_q rfl (qt_indexN tok rfl rfl rfl rfl (fun _ => by omega)) (by decide +kernel) rfl rfl rfl ?_ | refine prn_g rfl rfl rfl (qt_indexN tok rfl rfl rfl rfl (fun _ => by omega)) (by decide +kernel) rfl rfl rfl rfl rfl ?_ | refine prn_q rfl (qt_ldM tok rfl hc rfl) (by decide +kernel) rfl rfl rfl ?_ | refine prn_g rfl rfl rfl (qt_ldM tok rfl hc rfl) (by decide +kernel) rfl rfl rfl rfl rfl ?_ | refine prn_q rfl (qt_ldM0 tok rfl hc rfl) (by decide +kernel) rfl rfl rfl ?_ | refine prn_g rfl rfl rfl (qt_ldM0 tok rfl hc rfl) (by decide +kernel) rfl rfl rfl rfl rfl ?_ | refine prn_q rfl (qt_ldM tok rfl hc2 rfl) (by decide +kernel) rfl rfl rfl ?_ | refine prn_g rfl rfl rfl (qt_ldM tok rfl hc2 rfl) (by decide +kernel) rfl rfl rfl rfl rfl ?_ | refine prn_q rfl (qt_ldM0 tok rfl hc2 rfl) (by decide +kernel) rfl rfl rfl ?_ | refine prn_g rfl rfl rfl (qt_ldM0 tok rfl hc2 rfl) (by decide +kernel) rfl rfl rfl rfl rfl ?_)
    refine run_cond rfl (fun h => ?_) (fun h => ?_)
    · repeat (first | refine zz ?_ | refine zx fun _ => ?_)
      refine run_ret hC (rs := [.tmp 4]) rfl (resT rfl resN) (fun _ h => h) ⟨?_, rfl, rfl⟩
      rw [stEq_eq] at h
      rw [decide_eq_false (fun e => by
        rw [e, hm2] at hm
        have := Option.some.inj hm
        simp [this] at h)]
      rfl
    · rw [stEq_eq] at h
      have hmm : m = m2 := by simpa using h
      repeat (first | refine zz ?_ | refine zx fun _ => ?_)
      exact run_sub' (hnext _ _ _ ⟨hlt, rfl, rfl, by rw [take_snoc hm, take_snoc hm2, hpre, hmm], rfl⟩) ⟨lk_succ rfl (by omega), rfl, by rw [hv]; rfl, by rw [hv2]; rfl, trivial⟩
  · have hge : j = s.len := by simp at h; omega
    rw [hge, List.take_of_length_le (by omega), List.take_of_length_le (by omega)] at hpre
    repeat (first | refine zz ?_ | refine zx fun _ => ?_)
    refine run_ret hC (rs := [.tmp 4]) rfl (resT rfl resN) (fun _ h => h) ⟨?_, rfl, rfl⟩
    rw [decide_eq_true hpre]; rfl
def txEq (a b : Tx) : Bool := a.coord == b.coord && (a.epoch == b.epoch && ((a.seq == b.seq) && true))
theorem txEq_eq (a b : Tx) : txEq a b = decide (a = b) := by
  rw [Bool.eq_iff_iff, decide_eq_true_eq, ← Tx.ext_iff']
  simp [txEq]
def sameRc (a b : Rc) : Bool := ((((((((a.kind == b.kind) && (a.epoch == b.epoch)) && txEq a.txn b.txn) && (a.yes == b.yes)) && (a.auditor == b.auditor)) && decide (a.mem.xs = b.mem.xs)) && decide (a.tags.xs = b.tags.xs)) && (a.body.toList == b.body.toList))
set_option maxHeartbeats 4000000 in
theorem same_ok (M : Mem) (L : HL) (a b : Rc) (ha : MbOk M a.mem) (hb : MbOk M b.mem) (ha2 : StOk M a.tags) (hb2 : StOk M b.tags) : TrQ Tryz.prog 83 [.agg ⟨rcC a⟩, .agg ⟨rcC b⟩] M L (.bool (sameRc a b)) := by
  refine Tr.intro 59 Tryz.func83 rfl rfl Tryz.call83 rfl ?_
  intro C hC hro
  repeat (first | refine zz ?_ | refine zx fun _ => ?_ | refine runL_g rfl rfl (qt_callF rfl (fun _ => equal_ok _ _ a.mem b.mem ha hb)) rfl rfl rfl rfl rfl ?_ | refine runL_g rfl rfl (qt_callF rfl (fun _ => equalS_ok _ _ a.tags b.tags ha2 hb2)) rfl rfl rfl rfl rfl ?_)
  exact run_ret hC (rs := [.tmp 4]) rfl (resT rfl resN) (fun _ h => h.drop.drop) ⟨rfl, rfl, rfl⟩
def nilM : SMb := ⟨none, 0, 0, []⟩
def nilS : SStr := ⟨none, 0, 0, []⟩
def bareR (r : Rc) : Rc :=
  if r.kind = 1 then ⟨r.kind, r.epoch, ⟨0, 0, 0⟩, false, 0, nilM, nilS, ⟨#[]⟩⟩ else
  ⟨r.kind, 0, r.txn, r.yes, if fullR r = true then r.auditor else 0, if fullR r = true then r.mem else nilM, if r.kind = 3 ∧ r.yes = true then r.tags else nilS, if r.kind = 2 then r.body else ⟨#[]⟩⟩
set_option maxHeartbeats 8000000 in
theorem bare_ok (M : Mem) (L : HL) (r : Rc) : TrQ Tryz.prog 84 [.agg ⟨rcC r⟩] M L (.agg ⟨rcC (bareR r)⟩) := by
  refine Tr.intro 42 Tryz.func84 rfl rfl Tryz.call84 rfl ?_
  intro C hC hro
  repeat (first | refine zz ?_ | refine zx fun _ => ?_)
  refine run_cond rfl (fun h => ?_) (fun h => ?_)
  · have h1 : r.kind = 1 := by simpa using h
    repeat (first | refine zz ?_ | refine zx fun _ => ?_)
    refine run_ret hC (rs := [.cell 2 35]) rfl (rl tok rfl resN) (fun _ h => h.drop.drop.drop) ⟨?_, rfl, rfl⟩
    rw [bareR, if_pos h1]; rfl
  have h1 : ¬ r.kind = 1 := by simpa using h
  repeat (first | refine zz ?_ | refine zx fun _ => ?_)
  refine run_cond rfl (fun h => ?_) (fun h => ?_)
  · have h2 : r.kind = 2 := by simpa using h
    have hf : fullR r = true := by rw [fullR, h2]; rfl
    have h3 : ¬ (r.kind = 3 ∧ r.yes = true) := by rw [h2]; simp
    repeat (first | refine zz ?_ | refine zx fun _ => ?_ | refine dd ?_ | refine dz ?_ | refine dx fun _ => ?_ | refine runL_q (qt_callF rfl (fun _ => full_ok _ _ r)) rfl rfl rfl ?_)
    refine run_cond rfl (fun _ => ?_) (fun h => by rw [hf] at h; cases h)
    repeat (first | refine zz ?_ | refine zx fun _ => ?_ | refine dd ?_ | refine dz ?_ | refine dx fun _ => ?_)
    refine run_ret hC (rs := [.cell 2 35]) rfl (rl tok rfl resN) (fun _ h => h.drop.drop.drop) ⟨?_, rfl, rfl⟩
    rw [bareR, if_neg h1, if_pos hf, if_pos hf, if_neg h3, if_pos h2]; rfl
  have h2 : ¬ r.kind = 2 := by simpa using h
  repeat (first | refine zz ?_ | refine zx fun _ => ?_)
  refine run_cond rfl (fun h => ?_) (fun h => ?_)
  · have h3 : r.kind = 3 := by simpa using h
    repeat (first | refine zz ?_ | refine zx fun _ => ?_)
    refine run_cond rfl (fun hy => ?_) (fun hy => ?_)
    · have hf : fullR r = true := by rw [fullR, h3, hy]; rfl
      repeat (first | refine zz ?_ | refine zx fun _ => ?_ | refine dd ?_ | refine dz ?_ | refine dx fun _ => ?_ | refine runL_q (qt_callF rfl (fun _ => full_ok _ _ r)) rfl rfl rfl ?_)
      refine run_cond rfl (fun _ => ?_) (fun h => by rw [hf] at h; cases h)
      repeat (first | refine zz ?_ | refine zx fun _ => ?_ | refine dd ?_ | refine dz ?_ | refine dx fun _ => ?_)
      refine run_ret hC (rs := [.cell 2 35]) rfl (rl tok rfl resN) (fun _ h => h.drop.drop.drop) ⟨?_, rfl, rfl⟩
      rw [bareR, if_neg h1, if_pos hf, if_pos hf, if_pos ⟨h3, hy⟩, if_neg h2]; rfl
    · have hf : fullR r = false := by rw [fullR, h3, hy]; rfl
      repeat (first | refine zz ?_ | refine zx fun _ => ?_ | refine dd ?_ | refine dz ?_ | refine dx fun _ => ?_ | refine runL_q (qt_callF rfl (fun _ => full_ok _ _ r)) rfl rfl rfl ?_)
      refine run_cond rfl (fun h => by rw [hf] at h; cases h) (fun _ => ?_)
      repeat (first | refine zz ?_ | refine zx fun _ => ?_ | refine dd ?_ | refine dz ?_ | refine dx fun _ => ?_)
      refine run_ret hC (rs := [.cell 2 35]) rfl (rl tok rfl resN) (fun _ h => h.drop.drop.drop) ⟨?_, rfl, rfl⟩
      rw [bareR, if_neg h1, if_neg (by simp [hf]), if_neg (by simp [hf]), if_neg (by simp [hy]), if_neg h2]; rfl
  · have h3 : ¬ r.kind = 3 := by simpa using h
    have hf : fullR r = false := by simp [fullR, h2, h3]
    repeat (first | refine zz ?_ | refine zx fun _ => ?_ | refine dd ?_ | refine dz ?_ | refine dx fun _ => ?_ | refine runL_q (qt_callF rfl (fun _ => full_ok _ _ r)) rfl rfl rfl ?_)
    refine run_cond rfl (fun h => by rw [hf] at h; cases h) (fun _ => ?_)
    repeat (first | refine zz ?_ | refine zx fun _ => ?_ | refine dd ?_ | refine dz ?_ | refine dx fun _ => ?_)
    refine run_ret hC (rs := [.cell 2 35]) rfl (rl tok rfl resN) (fun _ h => h.drop.drop.drop) ⟨?_, rfl, rfl⟩
    rw [bareR, if_neg h1, if_neg (by simp [hf]), if_neg (by simp [hf]), if_neg (by simp [h3]), if_neg h2]; rfl
theorem bareR_mem (M : Mem) (r : Rc) (h : MbOk M r.mem) : MbOk M (bareR r).mem := by
  unfold bareR
  repeat' split
  all_goals first | exact MbOk.nil M | exact h
theorem bareR_tags (M : Mem) (r : Rc) (h : StOk M r.tags) : StOk M (bareR r).tags := by
  unfold bareR
  repeat' split
  all_goals first | exact StOk.nil M | exact h
end Go.Proofs.YtkjljcgbnikmkaaGreatDoor
namespace Go.Proofs.YtkjljcgbnikmkaaGreatDoor
open Go.Chi
set_option maxRecDepth 10000
def cA (r : Rc) : Bool := (decide (r.kind < 1) || decide (r.kind > 4)) || !sameRc r (bareR r)
def cB (r : Rc) : Bool := (r.kind == 1) && (decide (r.epoch < 1) || decide (r.epoch > 255))
def cC (r : Rc) : Bool := (r.kind != 1) && !mayTx r.txn
def cD (r : Rc) : Bool := fullR r && ((!orgW r.auditor) || !mayMb r.txn r.mem.xs)
def tagN (r : Rc) : Int := if r.kind = 3 then (r.mem.len : Int) else 0
def cE (r : Rc) : Bool := ((r.tags.len : Int) != tagN r) || r.tags.xs.any fun t => !isT t
def cF (r : Rc) : Bool := (r.kind == 2) && !isT r.body
def recE (r : Rc) : Int := if cA r = true then 2 else if cB r = true then 2 else if cC r = true then 2 else if cD r = true then 2 else if cE r = true then 2 else if cF r = true then 2 else 0
set_option maxHeartbeats 16000000 in
theorem recCheck_ok (M : Mem) (L : HL) (r : Rc) (hr : RcOk M r) : TrQ Tryz.prog 59 [.agg ⟨rcC r⟩] M L (.int .i64 (recE r)) := by
  refine Tr.intro 83 Tryz.func59 rfl rfl Tryz.call59 rfl ?_
  intro C hC hro
  repeat (first | refine zz ?_ | refine zx fun _ => ?_)
  rename_i b1
  refine run_cut (fun σ' M' L' => σ' = [(3, .int .i64 (tagN r)), (1, .pointer (some ⟨b1, 0, none⟩))] ∧ M = M' ∧ L' = (b1, .cells ⟨rcC r⟩ 35 (0, 0)) :: L) ?_ ?_
  rotate_left
  · intro hnext
    refine run_cond rfl (fun h => ?_) (fun h => ?_)
    · have hk : ¬ r.kind = 3 := by simpa using h
      refine run_region ?_
      repeat (first | refine zq ?_ | refine zx fun _ => ?_)
      refine runL_nil ?_
      exact run_sub' (hnext _ _ _ ⟨rfl, rfl, rfl⟩) ⟨by rw [tagN, if_neg hk]; rfl, rfl, trivial⟩
    · have hk : r.kind = 3 := by simpa using h
      refine run_skip ?_
      exact run_sub' (hnext _ _ _ ⟨rfl, rfl, rfl⟩) ⟨by rw [tagN, if_pos hk]; rfl, rfl, trivial⟩
  rintro _ _ _ ⟨rfl, rfl, rfl⟩
  have hbm := bareR_mem M r hr.mem
  have hbt := bareR_tags M r hr.tags
  repeat (first | refine zz ?_ | refine zx fun _ => ?_ | refine dd ?_ | refine dz ?_ | refine dx fun _ => ?_ | refine prn_g rfl rfl rfl (qt_callF rfl (fun _ => bare_ok _ _ r)) (by decide +kernel) rfl rfl rfl rfl rfl ?_ | refine prn_g rfl rfl rfl (qt_callF rfl (fun _ => same_ok _ _ r (bareR r) hr.mem hbm hr.tags hbt)) (by decide +kernel) rfl rfl rfl rfl rfl ?_)
  refine run_cond rfl (fun h => ?_) (fun h => ?_)
  · have hcA : cA r = true := h
    repeat (first | refine zz ?_ | refine zx fun _ => ?_)
    refine run_cond rfl (fun _ => ?_) (fun h' => by rw [show cA r = false from h'] at hcA; cases hcA)
    repeat (first | refine zz ?_ | refine zx fun _ => ?_)
    exact run_ret hC (rs := [.tmp 2]) rfl (resT rfl resN) (fun _ h => h.drop) ⟨by rw [recE, if_pos hcA]; rfl, rfl, rfl⟩
  have hcA : ¬ cA r = true := fun e => by rw [show cA r = false from h] at e; cases e
  repeat (first | refine zz ?_ | refine zx fun _ => ?_)
  refine run_cond rfl (fun h => ?_) (fun h => ?_)
  · have hcB : cB r = true := h
    repeat (first | refine zz ?_ | refine zx fun _ => ?_)
    refine run_cond rfl (fun _ => ?_) (fun h' => by rw [show cB r = false from h'] at hcB; cases hcB)
    repeat (first | refine zz ?_ | refine zx fun _ => ?_)
    exact run_ret hC (rs := [.tmp 2]) rfl (resT rfl resN) (fun _ h => h.drop) ⟨by rw [recE, if_neg hcA, if_pos hcB]; rfl, rfl, rfl⟩
  have hcB : ¬ cB r = true := fun e => by rw [show cB r = false from h] at e; cases e
  repeat (first | refine zz ?_ | refine zx fun _ => ?_ | refine runL_g rfl rfl (qt_callF rfl (fun _ => mayTx_ok _ _ r.txn)) rfl rfl rfl rfl rfl ?_)
  refine run_cond rfl (fun h => ?_) (fun h => ?_)
  · have hcC : cC r = true := h
    repeat (first | refine zz ?_ | refine zx fun _ => ?_)
    refine run_cond rfl (fun _ => ?_) (fun h' => by rw [show cC r = false from h'] at hcC; cases hcC)
    repeat (first | refine zz ?_ | refine zx fun _ => ?_)
    exact run_ret hC (rs := [.tmp 2]) rfl (resT rfl resN) (fun _ h => h.drop) ⟨by rw [recE, if_neg hcA, if_neg hcB, if_pos hcC]; rfl, rfl, rfl⟩
  have hcC : ¬ cC r = true := fun e => by rw [show cC r = false from h] at e; cases e
  repeat (first | refine zz ?_ | refine zx fun _ => ?_ | refine runL_q (qt_callF rfl (fun _ => full_ok _ _ r)) rfl rfl rfl ?_ | refine runL_g rfl rfl (qt_callF rfl (fun _ => rorg_ok _ _ _)) rfl rfl rfl rfl rfl ?_ | refine runL_g rfl rfl (qt_callF rfl (fun _ => mayMb_ok _ _ r.txn r.mem hr.mem hr.dig)) rfl rfl rfl rfl rfl ?_)
  refine run_cond rfl (fun h => ?_) (fun h => ?_)
  · have hcD : cD r = true := h
    repeat (first | refine zz ?_ | refine zx fun _ => ?_)
    refine run_cond rfl (fun _ => ?_) (fun h' => by rw [show cD r = false from h'] at hcD; cases hcD)
    repeat (first | refine zz ?_ | refine zx fun _ => ?_)
    exact run_ret hC (rs := [.tmp 2]) rfl (resT rfl resN) (fun _ h => h.drop) ⟨by rw [recE, if_neg hcA, if_neg hcB, if_neg hcC, if_pos hcD]; rfl, rfl, rfl⟩
  have hcD : ¬ cD r = true := fun e => by rw [show cD r = false from h] at e; cases e
  repeat (first | refine zz ?_ | refine zx fun _ => ?_ | refine runL_g rfl rfl (qt_callF rfl (fun _ => containsF_ok _ _ r.tags hr.tags 90 (fun t => !isT t) (fun m hm => check1_ok _ _ m (hr.tag m hm)))) rfl rfl rfl rfl rfl ?_)
  refine run_cond rfl (fun h => ?_) (fun h => ?_)
  · have hcE : cE r = true := h
    repeat (first | refine zz ?_ | refine zx fun _ => ?_)
    refine run_cond rfl (fun _ => ?_) (fun h' => by rw [show cE r = false from h'] at hcE; cases hcE)
    repeat (first | refine zz ?_ | refine zx fun _ => ?_)
    exact run_ret hC (rs := [.tmp 2]) rfl (resT rfl resN) (fun _ h => h.drop) ⟨by rw [recE, if_neg hcA, if_neg hcB, if_neg hcC, if_neg hcD, if_pos hcE]; rfl, rfl, rfl⟩
  have hcE : ¬ cE r = true := fun e => by rw [show cE r = false from h] at e; cases e
  repeat (first | refine zz ?_ | refine zx fun _ => ?_ | refine runL_g rfl rfl (qt_callF rfl (fun _ => isTerm_ok _ _ r.body hr.body)) rfl rfl rfl rfl rfl ?_)
  refine run_cond rfl (fun h => ?_) (fun h => ?_)
  · have hcF : cF r = true := h
    repeat (first | refine zz ?_ | refine zx fun _ => ?_)
    exact run_ret hC (rs := [.tmp 2]) rfl (resT rfl resN) (fun _ h => h.drop) ⟨by rw [recE, if_neg hcA, if_neg hcB, if_neg hcC, if_neg hcD, if_neg hcE, if_pos hcF]; rfl, rfl, rfl⟩
  have hcF : ¬ cF r = true := fun e => by rw [show cF r = false from h] at e; cases e
  repeat (first | refine zz ?_ | refine zx fun _ => ?_)
  exact run_ret hC (rs := [.tmp 2]) rfl (resT rfl resN) (fun _ h => h.drop) ⟨by rw [recE, if_neg hcA, if_neg hcB, if_neg hcC, if_neg hcD, if_neg hcE, if_neg hcF]; rfl, rfl, rfl⟩
end Go.Proofs.YtkjljcgbnikmkaaGreatDoor
namespace Go.Proofs.YtkjljcgbnikmkaaGreatDoor
open Go.Chi
set_option maxRecDepth 10000
theorem mbC_all (xs : List Mb) : ∀ l ∈ xs.map mbC, l.length = 2 := by intro l hl; obtain ⟨p, _, rfl⟩ := List.mem_map.1 hl; rfl
theorem stC_all (xs : List ByteArray) : ∀ l ∈ xs.map stC, l.length = 1 := by intro l hl; obtain ⟨p, _, rfl⟩ := List.mem_map.1 hl; rfl
theorem mbC_one (r : Mb) : ∀ u ∈ mbC r, u.oneCell' = true := by intro u hu; simp [mbC] at hu; rcases hu with rfl | rfl <;> rfl
theorem stC_one (r : ByteArray) : ∀ u ∈ stC r, u.oneCell' = true := by intro u hu; simp [stC] at hu; subst hu; rfl
theorem flat_one {α : Type} {f : α → List Value} (h : ∀ r, ∀ u ∈ f r, u.oneCell' = true) (l : List α) : ∀ u ∈ (l.map f).flatten, u.oneCell' = true := by
  intro u hu
  obtain ⟨c, hc', hu'⟩ := List.mem_flatten.1 hu
  obtain ⟨r, _, rfl⟩ := List.mem_map.1 hc'
  exact h r u hu'
set_option maxHeartbeats 4000000 in
theorem cloneM_ok (M : Mem) (L : HL) (s : SMb) (hs : MbOk M s) :
    Tr Tryz.prog 65 [s.v] M L (fun v M' L' => M.le M' ∧ L = L' ∧ ∃ s' : SMb, v = s'.v ∧ s'.xs = s.xs ∧ MbOk M' s') := by
  have hlen := hs.len
  have hlt := hs.2
  have hsl := hs.1
  obtain ⟨a, n, c, xs⟩ := s
  simp only at hlen hlt
  subst hlen
  refine Tr.intro 8 Tryz.func65 rfl rfl Tryz.call65 rfl ?_
  intro C hC hro
  cases a with
  | none =>
    have hx : xs = [] := by
      obtain ⟨_, _, h3⟩ := hsl
      rcases h3 with h3 | ⟨b, off, e, _⟩
      · simpa using h3
      · cases e
    subst hx
    repeat (first | refine zz ?_ | refine zx fun _ => ?_)
    refine run_cond rfl (fun _ => ?_) (fun h => by cases h)
    repeat (first | refine zz ?_ | refine zx fun _ => ?_)
    exact run_ret hC (rs := [.tmp 2]) rfl (resT rfl resN) (fun _ h => h) ⟨Mem.le_refl _, rfl, nilM, rfl, rfl, MbOk.nil _⟩
  | some a =>
    repeat (first | refine zz ?_ | refine zx fun _ => ?_)
    refine run_cond rfl (fun h => by cases h) (fun _ => ?_)
    repeat (first | refine zz ?_ | refine zx fun _ => ?_)
    rename_i bs
    refine runL_op (st_appendG (xs := []) (n := 0) (news := (xs.map mbC).flatten) (m := xs.length) tok rfl rfl rfl rfl rfl rfl rfl rfl (L0 := L) (N := [(bs, .cells ⟨[]⟩ 98 (0, 0))]) (List.Perm.refl _) (.inr ⟨bs, 0, [], rfl, rfl, Nat.le_refl _, rfl, rfl⟩) (SrcG.ofSlM hsl) (flat_one mbC_one xs) (by omega) (by omega)) rfl rfl rfl ?_
    rintro va' _ _ ⟨NA', rfl, rfl, hA'⟩
    repeat (first | refine zz ?_ | refine zx fun _ => ?_)
    refine run_retE hC (rs := [.tmp 2]) rfl (resT rfl resN) fun w hw => ?_
    simp only [Nat.zero_add, List.nil_append] at hA'
    obtain ⟨M', a, c, h1, h2, h3, h4⟩ := hw.freezeOS (ls := xs.map mbC) hA' (by simp) (mbC_all xs)
    exact ⟨M', L, h2, h1, rfl, ⟨a, xs.length, c, xs⟩, h3, rfl, h4, hlt⟩
set_option maxHeartbeats 4000000 in
theorem cloneS_ok (M : Mem) (L : HL) (s : SStr) (hs : StOk M s) :
    Tr Tryz.prog 66 [s.v] M L (fun v M' L' => M.le M' ∧ L = L' ∧ ∃ s' : SStr, v = s'.v ∧ s'.xs = s.xs ∧ StOk M' s') := by
  have hlen := hs.len
  have hlt := hs.2
  have hsl := hs.1
  obtain ⟨a, n, c, xs⟩ := s
  simp only at hlen hlt
  subst hlen
  refine Tr.intro 8 Tryz.func66 rfl rfl Tryz.call66 rfl ?_
  intro C hC hro
  cases a with
  | none =>
    have hx : xs = [] := by
      obtain ⟨_, _, h3⟩ := hsl
      rcases h3 with h3 | ⟨b, off, e, _⟩
      · simpa using h3
      · cases e
    subst hx
    repeat (first | refine zz ?_ | refine zx fun _ => ?_)
    refine run_cond rfl (fun _ => ?_) (fun h => by cases h)
    repeat (first | refine zz ?_ | refine zx fun _ => ?_)
    exact run_ret hC (rs := [.tmp 2]) rfl (resT rfl resN) (fun _ h => h) ⟨Mem.le_refl _, rfl, nilS, rfl, rfl, StOk.nil _⟩
  | some a =>
    repeat (first | refine zz ?_ | refine zx fun _ => ?_)
    refine run_cond rfl (fun h => by cases h) (fun _ => ?_)
    repeat (first | refine zz ?_ | refine zx fun _ => ?_)
    rename_i bs
    refine runL_op (st_appendG (xs := []) (n := 0) (news := (xs.map stC).flatten) (m := xs.length) tok rfl rfl rfl rfl rfl rfl rfl rfl (L0 := L) (N := [(bs, .cells ⟨[]⟩ 9 (0, 0))]) (List.Perm.refl _) (.inr ⟨bs, 0, [], rfl, rfl, Nat.le_refl _, rfl, rfl⟩) (SrcG.ofSlM hsl) (flat_one stC_one xs) (by omega) (by omega)) rfl rfl rfl ?_
    rintro va' _ _ ⟨NA', rfl, rfl, hA'⟩
    repeat (first | refine zz ?_ | refine zx fun _ => ?_)
    refine run_retE hC (rs := [.tmp 2]) rfl (resT rfl resN) fun w hw => ?_
    simp only [Nat.zero_add, List.nil_append] at hA'
    obtain ⟨M', a, c, h1, h2, h3, h4⟩ := hw.freezeOS (ls := xs.map stC) hA' (by simp) (stC_all xs)
    exact ⟨M', L, h2, h1, rfl, ⟨a, xs.length, c, xs⟩, h3, rfl, h4, hlt⟩
end Go.Proofs.YtkjljcgbnikmkaaGreatDoor
namespace Go.Chi
section
variable {P : Program} {C : Cx} {n : Nat} {k : List Item} {ds : List Deferred} {σ : Env} {δ : Den} {M : Mem} {L : HL} {ops : Array Oper}
theorem pr_set {D D' X X' : List Nat} (hD : ∀ i, i ∈ D ↔ i ∈ D') (hX : ∀ i, i ∈ X' → i ∈ X) (h : PR P C n ops k ds D' X' σ δ M L) : PR P C n ops k ds D X σ δ M L :=
  fun a â w listed fuel t hst => h a â w listed fuel t {
    hsz := hst.hsz
    cnt := hst.cnt
    an := hst.an
    hn := hst.hn
    ad := hst.ad
    hd := hst.hd
    sees := hst.sees
    hp := hst.hp
    down := hst.down
    sub := fun i hi => (hD i).1 (hst.sub i hi)
    ex := fun i hi => hst.ex i (hX i hi)
    pend := fun q hq hn => hst.pend q ((hD q).2 hq) hn
    agree := fun t ht => hst.agree t fun q hq hn => ht q ((hD q).1 hq) hn
    wf := fun i hi hin q hq hqn => hst.wf i ((hD i).2 hi) hin q ((hD q).2 hq) hqn
    uniq := fun i hi hin q hq hqn => hst.uniq i ((hD i).2 hi) hin q ((hD q).2 hq) hqn }
theorem pr_sub {D X : List Nat} (σ' : Env) (hs : subE σ σ') (h : PR P C n ops k ds D X σ' δ M L) : PR P C n ops k ds D X σ δ M L :=
  fun a â w listed fuel t hst => h a â w listed fuel t { hst with sees := ⟨fun t v e => hst.sees.s t v (subE_sound hs t v e), hst.sees.d⟩ }
def chkI1 (ops : Array Oper) (Q Es : List Nat) (e : Nat) : Bool :=
  Nat.blt e ops.size && plainAt ops e && !memN Q e && (predsAt ops e).all (fun p => memN Q p || memN Es p) &&
  (let bs := befs ops e
   (Es ++ Q).all (fun q => Nat.beq q e || memN bs q || memN (befs ops q) e || (dataOk ops e q && !(match slotOf ops q with | some d => memN (looks ops e) d | none => false) && (match slotOf ops e with | some d => freeOf ops d q | none => true))))
def chkI2 (ops : Array Oper) (Q Es : List Nat) (i : Nat) : Bool := memN Q i || memN Es i || (predsAt ops i).any (fun p => !memN Q p && !memN Es p) || Es.all (memN (predsAt ops i))
def chkInv (ops : Array Oper) (Q Es : List Nat) : Bool := (acyc ops && Q.all (fun q => (predsAt ops q).all (memN Q))) && Es.all (chkI1 ops Q Es) && (List.range ops.size).all (chkI2 ops Q Es)
theorem befs_in {S : Nat → Prop} (hdown : ∀ i, S i → ∀ p ∈ predsAt ops i, S p) {e : Nat} (he : S e) : ∀ q ∈ befs ops e, S q := by
  unfold befs
  suffices ∀ (l acc : List Nat), (∀ q ∈ acc, S q) → ∀ q ∈ l.foldl (fun acc i => if acc.any (fun j => memN (predsAt ops j) i) then i :: acc else acc) acc, S q from
    this _ [e] (fun q hq => by rw [List.mem_singleton.1 hq]; exact he)
  intro l
  induction l with
  | nil => exact fun acc h q hq => h q hq
  | cons i l ih =>
    intro acc h
    simp only [List.foldl_cons]
    refine ih _ ?_
    split
    · rename_i hany
      intro q hq
      rcases List.mem_cons.1 hq with rfl | hq
      · obtain ⟨j, hj, hm⟩ := List.any_eq_true.1 hany
        exact hdown j (h j hj) q (memN_iff.1 hm)
      · exact h q hq
    · exact h
def EffI (P : Program) (C : Cx) (n : Nat) (ops : Array Oper) (I : List Nat → Env → Mem → HL → Prop) (X : List Nat) (σ : Env) (δ : Den) (M : Mem) (L : HL) (e : Nat) : Prop :=
  ∃ (dst : Option Nat) (op : Op) (ty : TypeId) (pos : String) (aft : Array Edge) (K : Value → Mem → HL → Prop) (σ' : Value → Env), ops[e]? = some ⟨dst, op, ty, pos, aft, none⟩ ∧
    St P C.b.roundOf ⟨dst, op, ty, pos, aft, none⟩ σ δ [] M L K ∧
    (∀ a v, a.tmps.size = n → Sees σ δ a → Sees (σ' v) δ (a.put dst v)) ∧
    (∀ v M' L', K v M' L' → I (e :: X) (σ' v) M' L')
theorem exists_min {l : List Nat} {p : Nat → Prop} (h : ∃ e ∈ l, p e) : ∃ e ∈ l, p e ∧ ∀ e' ∈ l, e' < e → ¬ p e' := by
  obtain ⟨e, he, hp⟩ := h
  induction e using Nat.strongRecOn with
  | _ e ih =>
    by_cases hx : ∃ e', e' ∈ l ∧ e' < e ∧ p e'
    · obtain ⟨e', h1, h2, h3⟩ := hx
      exact ih e' h2 h1 h3
    · exact ⟨e, he, hp, fun e' h1 h2 h3 => hx ⟨e', h1, h2, h3⟩⟩
theorem pr_inv {Q Es : List Nat} (I : List Nat → Env → Mem → HL → Prop) (hchk : chkInv ops Q Es = true)
    (hstep : ∀ X σ M L, I X σ M L → ∀ e ∈ Es, e ∉ X → (∀ p ∈ predsAt ops e, p ∈ X ∨ p ∈ Q) → EffI P C n ops I X σ δ M L e)
    (hkeep : ∀ X σ M L, I X σ M L → ∀ e ∈ Es, e ∉ X → ∀ M' L' σ', I (e :: X) σ' M' L' → ∀ q ∈ Q, ∀ a, Sees σ δ a → Pend P C.b.roundOf ops q a M' L')
    (hend : ∀ X σ M L, I X σ M L → (∀ e ∈ Es, e ∈ X) → (∀ x ∈ X, x ∈ Es) → PR P C n ops k ds (X ++ Q) X σ δ M L) :
    ∀ (m : Nat) (X : List Nat) (σ : Env) (M : Mem) (L : HL), (Es.filter (fun e => !memN X e)).length ≤ m → (∀ x ∈ X, x ∈ Es) → (∀ x ∈ X, ∀ p ∈ predsAt ops x, p ∈ X ∨ p ∈ Q) → I X σ M L → PR P C n ops k ds (X ++ Q) X σ δ M L := by
  simp only [chkInv, Bool.and_eq_true] at hchk
  obtain ⟨⟨⟨hac, hQ⟩, h1⟩, h2⟩ := hchk
  intro m
  induction m with
  | zero =>
    intro X σ M L hm hX hXp hI
    refine hend X σ M L hI (fun e he => ?_) hX
    have := List.length_eq_zero_iff.1 (Nat.le_zero.1 hm)
    cases hx : memN X e with
    | true => exact memN_iff.1 hx
    | false =>
      have : e ∈ Es.filter (fun e => !memN X e) := List.mem_filter.2 ⟨he, by rw [hx]; rfl⟩
      simp_all
  | succ m ih =>
    intro X σ M L hm hX hXp hI
    by_cases hall : ∀ e ∈ Es, e ∈ X
    · exact hend X σ M L hI hall hX
    have hex : ∃ e ∈ Es, e ∉ X := by
      apply Classical.byContradiction
      intro h
      exact hall fun e he => Classical.byContradiction fun hn => h ⟨e, he, hn⟩
    let Rd : List Nat := Es.filter (fun e => !memN X e && (predsAt ops e).all (fun p => memN X p || memN Q p))
    have hRd : ∀ e, e ∈ Rd ↔ e ∈ Es ∧ e ∉ X ∧ ∀ p ∈ predsAt ops e, p ∈ X ∨ p ∈ Q := by
      intro e
      simp only [Rd, List.mem_filter, Bool.and_eq_true, Bool.not_eq_true', List.all_eq_true, Bool.or_eq_true]
      constructor
      · rintro ⟨a1, a2, a3⟩
        exact ⟨a1, memN_false a2, fun p hp => (a3 p hp).imp memN_iff.1 memN_iff.1⟩
      · rintro ⟨a1, a2, a3⟩
        refine ⟨a1, ?_, fun p hp => (a3 p hp).imp memN_iff.2 memN_iff.2⟩
        cases hx : memN X e with
        | false => rfl
        | true => exact absurd (memN_iff.1 hx) a2
    have hne : Rd ≠ [] := by
      obtain ⟨e, he, hn, hmin⟩ := exists_min hex
      have : e ∈ Rd := (hRd e).2 ⟨he, hn, fun p hp => by
        have hc := List.all_eq_true.1 h1 e he
        simp only [chkI1, Bool.and_eq_true] at hc
        have hp2 := List.all_eq_true.1 hc.1.2 p hp
        simp only [Bool.or_eq_true] at hp2
        rcases hp2 with hp2 | hp2
        · exact .inr (memN_iff.1 hp2)
        · have hlt : p < e := by
            have hc2 := Nat.blt_eq.mp hc.1.1.1.1
            have := List.all_eq_true.1 hac e (List.mem_range.2 hc2)
            exact Nat.blt_eq.mp (List.all_eq_true.1 this p hp)
          exact .inl (Classical.byContradiction fun hx => hmin p (memN_iff.1 hp2) hlt hx)⟩
      intro h
      rw [h] at this
      cases this
    refine pr_es Rd hac ?_ hne fun e he => ?_
    · refine List.all_eq_true.2 fun i hi => ?_
      have hc := List.all_eq_true.1 h2 i hi
      simp only [chkI2, Bool.or_eq_true, List.any_eq_true, Bool.and_eq_true, Bool.not_eq_true', List.all_eq_true] at hc
      have hnall : ∀ p, p ∈ predsAt ops i → p ∉ X → p ∉ Q → (predsAt ops i).all (memN (X ++ Q)) = false := fun p hp a1 a2 => by
        rw [List.all_eq_false]
        exact ⟨p, hp, fun h => (List.mem_append.1 (memN_iff.1 h)).elim a1 a2⟩
      simp only [Bool.or_eq_true, Bool.not_eq_true']
      rcases hc with ((hc | hc) | hc) | hc
      · exact .inl (.inl (memN_iff.2 (List.mem_append_right _ (memN_iff.1 hc))))
      · by_cases hx : i ∈ X
        · exact .inl (.inl (memN_iff.2 (List.mem_append_left _ hx)))
        · by_cases hr : i ∈ Rd
          · exact .inl (.inr (memN_iff.2 hr))
          · right
            have : ∃ p, p ∈ predsAt ops i ∧ p ∉ X ∧ p ∉ Q := by
              apply Classical.byContradiction
              intro h
              exact hr ((hRd i).2 ⟨memN_iff.1 hc, hx, fun p hp => Classical.byContradiction fun hq => h ⟨p, hp, fun h => hq (.inl h), fun h => hq (.inr h)⟩⟩)
            obtain ⟨p, a1, a2, a3⟩ := this
            exact hnall p a1 a2 a3
      · obtain ⟨p, a1, a2, a3⟩ := hc
        exact .inr (hnall p a1 (fun h => memN_false a3 (hX p h)) (memN_false a2))
      · obtain ⟨e, he, hn⟩ := hex
        right
        have hq : e ∉ Q := by
          have hc1 := List.all_eq_true.1 h1 e he
          simp only [chkI1, Bool.and_eq_true, Bool.not_eq_true'] at hc1
          exact memN_false hc1.1.1.2
        exact hnall e (memN_iff.1 (hc e he)) hn hq
    · obtain ⟨he1, he2, he3⟩ := (hRd e).1 he
      have hc := List.all_eq_true.1 h1 e he1
      simp only [chkI1, Bool.and_eq_true, Bool.not_eq_true'] at hc
      obtain ⟨⟨⟨⟨hc1, hc2⟩, hc3⟩, hc4⟩, hc5⟩ := hc
      have hnD : e ∉ X ++ Q := fun h => (List.mem_append.1 h).elim he2 (memN_false hc3)
      refine ⟨?_, ?_⟩
      · simp only [chkE1, Bool.and_eq_true, Bool.not_eq_true']
        refine ⟨⟨⟨⟨hc1, hc2⟩, ?_⟩, ?_⟩, ?_⟩
        · cases hx : memN (X ++ Q) e with
          | false => rfl
          | true => exact absurd (memN_iff.1 hx) hnD
        · exact List.all_eq_true.2 fun p hp => memN_iff.2 (List.mem_append.2 (he3 p hp))
        · refine List.all_eq_true.2 fun q hq => ?_
          have hq' : q ∈ Es ++ Q := by
            rcases List.mem_append.1 hq with h | h
            · exact List.mem_append_left _ (hX q h)
            · exact List.mem_append_right _ h
          have := List.all_eq_true.1 hc5 q hq'
          have hqe : Nat.beq q e = false := by
            cases hx : Nat.beq q e with
            | false => rfl
            | true => exact absurd (Nat.eq_of_beq_eq_true hx ▸ hq) hnD
          have hbe : memN (befs ops q) e = false := by
            cases hx : memN (befs ops q) e with
            | false => rfl
            | true =>
              have := befs_in (S := fun i => i ∈ X ∨ i ∈ Q) (ops := ops) (fun i hi p hp => by
                rcases hi with hi | hi
                · exact hXp i hi p hp
                · exact .inr (memN_iff.1 (List.all_eq_true.1 (List.all_eq_true.1 hQ i hi) p hp))) (List.mem_append.1 hq) e (memN_iff.1 hx)
              exact absurd (List.mem_append.2 this) hnD
          simp only [hqe, hbe, Bool.false_or, Bool.or_false] at this
          cases h5 : slotOf ops q <;> cases h6 : slotOf ops e <;> simp only [h5, h6] at this ⊢ <;> exact this
      · obtain ⟨dst, op, ty, pos, aft, K, σ', ho, hst, hsee, hK⟩ := hstep X σ M L hI e he1 he2 he3
        refine ⟨dst, op, ty, pos, aft, K, σ', none, rfl, ho, hst, hsee, fun v M' L' hv q hq a hs _ => ?_, fun v M' L' hv => ?_⟩
        · have hqD := (List.mem_filter.1 hq)
          simp only [Bool.and_eq_true, Bool.not_eq_true'] at hqD
          have hqQ : q ∈ Q := (List.mem_append.1 hqD.1).resolve_left (fun h => memN_false hqD.2.2 h)
          exact hkeep X σ M L hI e he1 he2 M' L' (σ' v) (hK v M' L' hv) q hqQ a hs
        · refine ih (e :: X) (σ' v) M' L' ?_ (fun x hx => ?_) (fun x hx p hp => ?_) (hK v M' L' hv)
          · have hsub : Es.filter (fun y => !memN (e :: X) y) = (Es.filter (fun y => !memN X y)).filter (fun y => decide (y ≠ e)) := by
              rw [List.filter_filter]
              apply List.filter_congr
              intro y _
              simp only [memN]
              cases hb : Nat.beq e y with
              | true => have := Nat.eq_of_beq_eq_true hb; subst this; simp
              | false => have := Nat.ne_of_beq_eq_false hb; simp; exact fun _ h => this h.symm
            have hmem : e ∈ Es.filter (fun y => !memN X y) := List.mem_filter.2 ⟨he1, by
              cases hx : memN X e with
              | false => rfl
              | true => exact absurd (memN_iff.1 hx) he2⟩
            have hlt : (Es.filter (fun y => !memN (e :: X) y)).length < (Es.filter (fun y => !memN X y)).length := by
              rw [hsub]
              refine Nat.lt_of_le_of_ne (List.length_filter_le _ _) (fun h => ?_)
              have := List.length_filter_eq_length_iff.1 h e hmem
              simp at this
            omega
          · rcases List.mem_cons.1 hx with rfl | hx
            · exact he1
            · exact hX x hx
          · rcases List.mem_cons.1 hx with rfl | hx
            · exact (he3 p hp).imp (List.mem_cons_of_mem _) id
            · exact (hXp x hx p hp).imp (List.mem_cons_of_mem _) id
end
end Go.Chi
namespace Go.Chi
def MethOk (P : Program) (t : TypeId) (name : String) (f : FuncId) : Prop := ∃ i m e, P.info? t = some i ∧ i.methods.find? (·.name == name) = some m ∧ m.path.toList = [] ∧ m.func = some (f, true) ∧ P.underlying t = some (.pointer e)
def methB (P : Program) (t : TypeId) (name : String) (f : FuncId) : Bool :=
  match P.info? t with
  | some i => match i.methods.find? (·.name == name) with
    | some m => m.path.toList.isEmpty && (match m.func with | some (g, true) => Nat.beq g f | _ => false) && (match P.underlying t with | some (.pointer _) => true | _ => false)
    | none => false
  | none => false
theorem MethOk.of {P : Program} {t : TypeId} {name : String} {f : FuncId} (h : methB P t name f = true) : MethOk P t name f := by
  unfold methB at h
  split at h
  · rename_i i hi
    split at h
    · rename_i m hm
      simp only [Bool.and_eq_true, List.isEmpty_iff] at h
      obtain ⟨⟨h1, h2⟩, h3⟩ := h
      split at h2
      · rename_i g hg
        split at h3
        · rename_i e he
          exact ⟨i, m, e, hi, hm, h1, by rw [hg, Nat.eq_of_beq_eq_true h2], he⟩
        · cases h3
      · cases h2
    · cases h
  · cases h
theorem run_method {P : Program} {t : TypeId} {name : String} {f : FuncId} (h : MethOk P t name f) (n : Nat) (v : Value) (w : World) : (method (n + 1) t v name).run P w = .ok (f, v) w := by
  obtain ⟨i, m, e, h1, h2, h3, h4, h5⟩ := h
  have h6 : ∀ w, (underlying t).run P w = .ok (.pointer e) w := fun w => run_underlying h5 w
  simp [method, typeInfo, h1, h2, h3, h4, follow, receiverAt, h6, Place.get]
section
variable {P : Program} {T : TT} {ro : Option Nat} {σ : Env} {δ : Den} {cur : Path} {M : Mem} {L : HL} {d : Option Nat} {op : Op} {ty : TypeId} {pos : String} {aft : Array Edge} {g : Option (Nat × Bool)} {v : Value}
theorem st_callM {x : Operand} {t : TypeId} {u : Value} {name : String} {f : FuncId} {args : Array Operand} {tys : Array TypeId} {vs : List Value} {K : Value → Mem → HL → Prop} (hx : ev σ δ cur x = some (.func (.method name) #[.iface t u] #[])) (ha : evs σ δ cur args.toList = some vs) (hm : MethOk P t name f) (h : Hy σ δ cur → Tr P f (u :: vs) M L K) :
    St P ro ⟨d, .call ⟨.value x, args, tys⟩, ty, pos, aft, g⟩ σ δ cur M L K := fun a w hs hcur hp => by
  obtain ⟨h1, h2⟩ := h (Hy_of hs hcur)
  refine opWp_enter (w' := w) ?_ (h2 w hp)
  rw [semAt_of (by intro c e; cases e)]
  have e1 : args.map a.eval = ⟨vs⟩ := by apply Array.ext'; simpa using evs_sound hs hcur ha
  have h3 : ∀ n w, (method (n + 1) t u name).run P w = .ok (f, u) w := fun n w => run_method hm n u w
  simp only [execOp, resolve, e1, ev_sound hs hcur hx, Deferred.ofValue, Sem.run_bind, Sem.run_pure, Result.andThen_ok, invoke]
  have e2 : (#[Value.iface t u] ++ (⟨vs⟩ : Array Value))[0]? = some (.iface t u) := by simp
  have e3 : (#[Value.iface t u] ++ (⟨vs⟩ : Array Value)).extract 1 (#[Value.iface t u] ++ (⟨vs⟩ : Array Value)).size = ⟨vs⟩ := by
    apply Array.ext'
    simp
  have e4 : #[u] ++ (⟨vs⟩ : Array Value) = ⟨u :: vs⟩ := by apply Array.ext'; simp
  simp only [e2, e3, callMethod, Sem.run_bind, run_program, Result.andThen_ok]
  rw [show P.types.size + Made.depth = (P.types.size + (Made.depth - 1)) + 1 from rfl, h3]
  simp only [Result.andThen_ok, e4]
  exact h1 w
end
end Go.Chi
namespace Go.Chi
section
variable {P : Program} {T : TT} {ro : Option Nat} {σ σ' : Env} {δ : Den} {cur : Path} {M : Mem} {L : HL} {d : Option Nat} {op : Op} {ty : TypeId} {pos : String} {aft : Array Edge} {g : Option (Nat × Bool)} {v : Value}
theorem qt_nilIface {x : Operand} {t : TypeId} (hx : ev σ δ cur x = some (.iface t v)) : Qt P ro ⟨d, .nilCheck x, ty, pos, aft, g⟩ σ δ cur M L (.iface t v) :=
  qt_of_run (semAt_of (by intro c e; cases e)) fun a w hs hcur hp => by
    simp [execOp, ev_sound hs hcur hx]
def concD : TypeDesc → Bool
  | .interface _ => false
  | _ => true
theorem qt_makeIfaceC (hT : TOk P T) {t : TypeId} {x : Operand} {u : TypeDesc} (hu : und T t = some u) (hc : concD u = true) (hx : ev σ δ cur x = some v) :
    Qt P ro ⟨d, .makeInterface t x, ty, pos, aft, g⟩ σ δ cur M L (.iface t v) :=
  qt_of_run (semAt_of (by intro c e; cases e)) fun a w hs hcur hp => by
    cases u <;> first | (cases hc; done) | simp [execOp, Instr.makeInterface, ev_sound hs hcur hx, run_und hT hu]
theorem qt_assertC (hT : TOk P T) {s t : TypeId} {x : Operand} {u : TypeDesc} (hu : und T t = some u) (hc : concD u = true) (hx : ev σ δ cur x = some (.iface t v)) :
    Qt P ro ⟨d, .typeAssert x s t false, ty, pos, aft, g⟩ σ δ cur M L v :=
  qt_of_run (semAt_of (by intro c e; cases e)) fun a w hs hcur hp => by
    cases u <;> first | (cases hc; done) | simp [execOp, Instr.typeAssert, ev_sound hs hcur hx, run_und hT hu]
theorem Sees.sub {a : Act} (hs : subE σ σ') (h : Sees σ δ a) : Sees σ' δ a := ⟨fun t v e => h.s t v (subE_sound hs t v e), h.d⟩
theorem St.sub {o : Oper} {K : Value → Mem → HL → Prop} (hs : subE σ σ') (h : St P ro o σ' δ cur M L K) : St P ro o σ δ cur M L K :=
  fun a w h1 h2 h3 => h a w (h1.sub hs) h2 h3
end
def unE (d : Nat) : Env → Bool
  | [] => true
  | (t, _) :: σ => match Nat.beq t d with | true => false | false => unE d σ
theorem subE_put {σ : Env} {d : Nat} {v : Value} : ∀ {σ' : Env}, unE d σ' = true → subE σ σ' → subE ((d, v) :: σ) σ'
  | [], _, _ => trivial
  | (t, u) :: σ', h, hs => by
    simp only [unE] at h
    split at h
    · cases h
    · rename_i hb
      have hne := Nat.ne_of_beq_eq_false hb
      refine ⟨?_, subE_put h hs.2⟩
      rw [lks_cons, if_neg (fun e => hne e.symm)]
      exact hs.1
theorem subE_cons {σ : Env} {x : Nat × Value} (hn : lks σ x.1 = none) : ∀ {σ' : Env}, subE σ σ' → subE (x :: σ) σ'
  | [], _ => trivial
  | (t, u) :: σ', h => by
    refine ⟨?_, subE_cons hn h.2⟩
    obtain ⟨d, v⟩ := x
    rw [lks_cons]
    split
    · rename_i e; subst e; rw [h.1] at hn; cases hn
    · exact h.1
def uniqE : Env → Bool
  | [] => true
  | (t, _) :: σ => match lks σ t with | none => uniqE σ | some _ => false
theorem subE_refl : ∀ {σ : Env}, uniqE σ = true → subE σ σ
  | [], _ => trivial
  | (t, v) :: σ, h => by
    simp only [uniqE] at h
    split at h
    · rename_i hn
      exact ⟨by rw [lks_cons, if_pos rfl], subE_cons hn (subE_refl h)⟩
    · cases h
section
variable {P : Program} {C : Cx} {n : Nat} {k : List Item} {ds : List Deferred} {σ : Env} {δ : Den} {M : Mem} {L : HL} {ops : Array Oper}
theorem runL_enterE {od : Option Nat} {op : Op} {ty : TypeId} {pos : String} {aft : Array Edge} {l : List Oper} {f : FuncId} {vs : List Value} {K : Ending → Mem → HL → Prop}
    (hr : ∀ a w, Sees σ δ a → ((⟨od, op, ty, pos, aft, none⟩ : Oper).semAt C.b.roundOf a.eval).run P w = .ok (.enter f ⟨vs⟩) w)
    (ht : TrE P f vs M L K) {σ' : Value → Env} (hd : ∀ a v, a.tmps.size = n → Sees σ δ a → Sees (σ' v) δ (a.put od v))
    (h : ∀ v M' L', K (.returned v) M' L' → RunL P C n ops l k ds (σ' v) δ M' L') (hp : ∀ ch M' L', K (.panicked ch) M' L' → RunX P C n (.panicking ch) ds σ M' L') :
    RunL P C n ops (⟨od, op, ty, pos, aft, none⟩ :: l) k ds σ δ M L := fun a w idx h1 h2 h3 h4 h5 => by
  cases idx with
  | nil => simp at h5
  | cons i r =>
    simp only [List.map_cons, List.cons.injEq] at h5
    have hg := stepGR_op (P := P) (b := C.b) (k := k) (cs := C.cs) (w := w) (rest := r) (a := a) h5.1 (wanted_none rfl _)
    have hr := hr a w h3
    obtain ⟨e, w'', fr, ⟨M', L', hp', hK⟩, hne, hs, _, hl⟩ := ht.2 w h4 (C.b.atR a (.inRegion ops (i :: r) :: k) :: C.cs)
    have henter : step P (lone (C.b.atR a (.inRegion ops (i :: r) :: k)) C.cs w) =
        .next (lone (Frame.enter P f ⟨vs⟩ .normal) (C.b.atR a (.inRegion ops (i :: r) :: k) :: C.cs) w) :=
      step_lone_go (by rw [hg]; simp [stepG.apply, hr, Frame.atR])
    cases e with
    | outgrown => exact absurd rfl hne
    | returned v =>
      have hstep := step_leave_returned (c := C.b.atR a (.inRegion ops (i :: r) :: k)) (cs := C.cs) hl
      rw [finish_op h5.1] at hstep
      exact J.steps (.head henter (hs.trans (.one hstep))) (h v M' L' hK _ w'' r (by rw [put_size]; exact h1) (by rw [put_defers]; exact h2) (hd a v h1 h3) hp' h5.2)
    | panicked ch =>
      have hstep := step_leave_panicked (c := C.b.atR a (.inRegion ops (i :: r) :: k)) (cs := C.cs) hl
      have hra : (C.b.atR a (.inRegion ops (i :: r) :: k)).raise ch = { C.b.atR a (.inRegion ops (i :: r) :: k) with mode := .panicking ch } := by simp [Frame.raise, Frame.atR]
      rw [hra] at hstep
      exact J.steps (.head henter (hs.trans (.one hstep))) (hp ch M' L' hK a w'' _ h1 h2 h3.nil hp')
theorem runL_callVE {d : Nat} {ty : TypeId} {pos : String} {aft : Array Edge} {l : List Oper} {x : Operand} {f : FuncId} {args : Array Operand} {tys : Array TypeId} {first cap : Array Value} {vs : List Value} {K : Ending → Mem → HL → Prop}
    (hx : ev σ δ [] x = some (.func (.func f) first cap)) (ha : evs σ δ [] args.toList = some vs) (ht : TrE P f (first.toList ++ vs ++ cap.toList) M L K) (hd : Nat.blt d n = true) (hn : lkd δ d = none) (hu : unNamed δ d = true)
    (h : ∀ v M' L', K (.returned v) M' L' → RunL P C n ops l k ds ((d, v) :: σ) δ M' L') (hp : ∀ ch M' L', K (.panicked ch) M' L' → RunX P C n (.panicking ch) ds σ M' L') :
    RunL P C n ops (⟨some d, .call ⟨.value x, args, tys⟩, ty, pos, aft, none⟩ :: l) k ds σ δ M L := by
  refine runL_enterE (fun a w h3 => ?_) ht (σ' := fun v => (d, v) :: σ) (fun a v h1 h3 => h3.put (by rw [h1]; exact Nat.blt_eq.mp hd) hn hu v) h hp
  rw [semAt_of (by intro c e; cases e)]
  have e1 : args.map a.eval = ⟨vs⟩ := by apply Array.ext'; simpa using evs_sound h3 (holds_nil a) ha
  have e2 : first ++ (⟨vs⟩ : Array Value) ++ cap = ⟨first.toList ++ vs ++ cap.toList⟩ := by apply Array.ext'; simp
  simp only [execOp, resolve, e1, ev_sound h3 (holds_nil a) hx, Deferred.ofValue, Sem.run_bind, Sem.run_pure, Result.andThen_ok, invoke, e2]
  exact ht.1 w
theorem runL_callME {d : Nat} {ty : TypeId} {pos : String} {aft : Array Edge} {l : List Oper} {x : Operand} {t : TypeId} {u : Value} {name : String} {f : FuncId} {args : Array Operand} {tys : Array TypeId} {vs : List Value} {K : Ending → Mem → HL → Prop}
    (hx : ev σ δ [] x = some (.func (.method name) #[.iface t u] #[])) (ha : evs σ δ [] args.toList = some vs) (hm : MethOk P t name f) (ht : TrE P f (u :: vs) M L K) (hd : Nat.blt d n = true) (hn : lkd δ d = none) (hu : unNamed δ d = true)
    (h : ∀ v M' L', K (.returned v) M' L' → RunL P C n ops l k ds ((d, v) :: σ) δ M' L') (hp : ∀ ch M' L', K (.panicked ch) M' L' → RunX P C n (.panicking ch) ds σ M' L') :
    RunL P C n ops (⟨some d, .call ⟨.value x, args, tys⟩, ty, pos, aft, none⟩ :: l) k ds σ δ M L := by
  refine runL_enterE (fun a w h3 => ?_) ht (σ' := fun v => (d, v) :: σ) (fun a v h1 h3 => h3.put (by rw [h1]; exact Nat.blt_eq.mp hd) hn hu v) h hp
  rw [semAt_of (by intro c e; cases e)]
  have e1 : args.map a.eval = ⟨vs⟩ := by apply Array.ext'; simpa using evs_sound h3 (holds_nil a) ha
  have h4 : ∀ n w, (method (n + 1) t u name).run P w = .ok (f, u) w := fun n w => run_method hm n u w
  simp only [execOp, resolve, e1, ev_sound h3 (holds_nil a) hx, Deferred.ofValue, Sem.run_bind, Sem.run_pure, Result.andThen_ok, invoke]
  have e2 : (#[Value.iface t u] ++ (⟨vs⟩ : Array Value))[0]? = some (.iface t u) := by simp
  have e3 : (#[Value.iface t u] ++ (⟨vs⟩ : Array Value)).extract 1 (#[Value.iface t u] ++ (⟨vs⟩ : Array Value)).size = ⟨vs⟩ := by
    apply Array.ext'
    simp
  have e4 : #[u] ++ (⟨vs⟩ : Array Value) = ⟨u :: vs⟩ := by apply Array.ext'; simp
  simp only [e2, e3, callMethod, Sem.run_bind, run_program, Result.andThen_ok]
  rw [show P.types.size + Made.depth = (P.types.size + (Made.depth - 1)) + 1 from rfl, h4]
  simp only [Result.andThen_ok, e4]
  exact ht.1 w
end
end Go.Chi
namespace Go.Proofs.YtkjljcgbnikmkaaGreatDoor
open Go.Chi
def mv (t : Nat) (p : Value) (nm : String) : Value := .func (.method nm) ⟨[.iface t p]⟩ ⟨[]⟩
def methL (k : Int) : List String :=
  if k = 1 then ["chirograph/record.epoch"] else
  if k = 2 then ["chirograph/record.txn", "chirograph/record.yes", "chirograph/record.auditor", "chirograph/record.members", "chirograph/record.body"] else
  if k = 3 then ["chirograph/record.txn", "chirograph/record.yes", "chirograph/record.more"] else
  if k = 4 then ["chirograph/record.txn", "chirograph/record.yes"] else []
structure OfE where
  bld : Nat
  ins : Nat
  slot : Nat
  key : Int
def ofT : List OfE := [⟨4, 5, 9, 1⟩, ⟨21, 22, 25, 2⟩, ⟨32, 33, 35, 3⟩, ⟨40, 41, 42, 4⟩]
abbrev kU8 (n : Int) : Value := .int .u8 n
def ofCs (t : Nat) (p : Value) (k : Int) : List Value := (methL k).map (mv t p)
def ofV (b : Nat) (k : Int) : Value := .slice (some ⟨b, 0, none⟩) (methL k).length (methL k).length
structure OfI (t : Nat) (p : Value) (σ0 : Env) (M : Mem) (L : HL) (X : List Nat) (σ : Env) (M1 : Mem) (L1 : HL) : Prop where
  le : M.le M1
  sub : subE σ σ0
  own : 0 ∉ X → L1 = L
  first : ∀ y ∈ ofT, y.ins ∈ X → 0 ∈ X ∧ y.bld ∈ X
  map : 0 ∈ X → ∃ bm es clk, lks σ 5 = some (.map (some bm)) ∧ L1 = (bm, .map ⟨ents kU8 es⟩ clk) :: L ∧ (∀ q : Int, q ≠ 1 → q ≠ 2 → q ≠ 3 → q ≠ 4 → kvGet es q = none) ∧ ∀ y ∈ ofT, y.ins ∈ X → kvGet es y.key = lks σ y.slot
  blt : ∀ y ∈ ofT, y.bld ∈ X → ∃ b, lks σ y.slot = some (ofV b y.key) ∧ M1.blk b = some (.cells ⟨ofCs t p y.key⟩ 1 (0, 0))
theorem ofT_all {q : OfE → Prop} : (∀ y ∈ ofT, q y) ↔ q ⟨4, 5, 9, 1⟩ ∧ q ⟨21, 22, 25, 2⟩ ∧ q ⟨32, 33, 35, 3⟩ ∧ q ⟨40, 41, 42, 4⟩ := by simp [ofT]
theorem ofT_slot {y z : OfE} (hy : y ∈ ofT) (hz : z ∈ ofT) : (y.slot = z.slot ↔ y = z) ∧ (y.key = z.key ↔ y = z) ∧ (y.bld = z.bld ↔ y = z) ∧ (y.ins = z.ins ↔ y = z) ∧ y.bld ≠ z.ins ∧ y.bld ≠ 0 ∧ y.ins ≠ 0 ∧ y.slot ≠ 5 ∧ (y.key = 1 ∨ y.key = 2 ∨ y.key = 3 ∨ y.key = 4) := by
  simp only [ofT, List.mem_cons, List.not_mem_nil, or_false] at hy hz
  rcases hy with rfl | rfl | rfl | rfl <;> rcases hz with rfl | rfl | rfl | rfl <;> simp
section
variable {t : Nat} {p : Value} {σ0 : Env} {M : Mem} {L : HL} {X : List Nat} {σ : Env} {M1 : Mem} {L1 : HL}
theorem OfI.make (h : OfI t p σ0 M L X σ M1 L1) (hX : 0 ∉ X) (hu : unE 5 σ0 = true) (b : Nat) : OfI t p σ0 M L (0 :: X) ((5, .map (some b)) :: σ) M1 ((b, .map ⟨ents kU8 []⟩ 0) :: L1) where
  le := h.le
  sub := subE_put hu h.sub
  own := fun hn => absurd List.mem_cons_self hn
  first := fun y hy hi => ⟨List.mem_cons_self, by
    rcases List.mem_cons.1 hi with e | hi
    · exact absurd e (ofT_slot hy hy).2.2.2.2.2.2.1
    · exact List.mem_cons_of_mem _ (h.first y hy hi).2⟩
  map := fun _ => ⟨b, [], 0, rfl, by rw [h.own hX], fun _ _ _ _ _ => rfl, fun y hy hi => by
    rcases List.mem_cons.1 hi with e | hi
    · exact absurd e (ofT_slot hy hy).2.2.2.2.2.2.1
    · exact absurd (h.first y hy hi).1 hX⟩
  blt := fun y hy hi => by
    have hs := ofT_slot hy hy
    rcases List.mem_cons.1 hi with e | hi
    · exact absurd e hs.2.2.2.2.2.1
    · obtain ⟨b', h1, h2⟩ := h.blt y hy hi
      exact ⟨b', by rw [lks_cons, if_neg (fun e => hs.2.2.2.2.2.2.2.1 e.symm)]; exact h1, h2⟩
theorem OfI.build (h : OfI t p σ0 M L X σ M1 L1) {y : OfE} (hy : y ∈ ofT) (hn : y.bld ∉ X) (hu : unE y.slot σ0 = true) {M2 : Mem} (hM : M1.le M2) {b : Nat} (hb : M2.blk b = some (.cells ⟨ofCs t p y.key⟩ 1 (0, 0))) : OfI t p σ0 M L (y.bld :: X) ((y.slot, ofV b y.key) :: σ) M2 L1 where
  le := Mem.le_trans h.le hM
  sub := subE_put hu h.sub
  own := fun h0 => h.own fun e => h0 (List.mem_cons_of_mem _ e)
  first := fun z hz hi => by
    rcases List.mem_cons.1 hi with e | hi
    · exact absurd e.symm (ofT_slot hy hz).2.2.2.2.1
    · exact ⟨List.mem_cons_of_mem _ (h.first z hz hi).1, List.mem_cons_of_mem _ (h.first z hz hi).2⟩
  map := fun h0 => by
    have h0' : 0 ∈ X := (List.mem_cons.1 h0).resolve_left fun e => (ofT_slot hy hy).2.2.2.2.2.1 e.symm
    obtain ⟨bm, es, clk, h1, h2, h3, h4⟩ := h.map h0'
    refine ⟨bm, es, clk, ?_, h2, h3, fun z hz hi => ?_⟩
    · rw [lks_cons, if_neg (ofT_slot hy hy).2.2.2.2.2.2.2.1]; exact h1
    · rcases List.mem_cons.1 hi with e | hi
      · exact absurd e.symm (ofT_slot hy hz).2.2.2.2.1
      · rw [lks_cons, if_neg (fun e => hn (h.first y hy (by rw [(ofT_slot hy hz).1.1 e]; exact hi)).2)]; exact h4 z hz hi
  blt := fun z hz hi => by
    by_cases e : y = z
    · subst e
      exact ⟨b, by rw [lks_cons, if_pos rfl], hb⟩
    · rcases List.mem_cons.1 hi with e' | hi
      · exact absurd ((ofT_slot hy hz).2.2.1.1 e'.symm) e
      · obtain ⟨b', h1, h2⟩ := h.blt z hz hi
        exact ⟨b', by rw [lks_cons, if_neg (fun e' => e ((ofT_slot hy hz).1.1 e'))]; exact h1, hM.blk _ _ h2⟩
theorem OfI.put (h : OfI t p σ0 M L X σ M1 L1) {y : OfE} (hy : y ∈ ofT) {bm : Nat} {es : KV Int} {clk clk' : Nat} {v : Value} (hb : y.bld ∈ X) (h5 : lks σ 5 = some (.map (some bm)))
    (h3 : ∀ q : Int, q ≠ 1 → q ≠ 2 → q ≠ 3 → q ≠ 4 → kvGet es q = none) (h4 : ∀ y ∈ ofT, y.ins ∈ X → kvGet es y.key = lks σ y.slot) (h0 : 0 ∈ X) (hv : lks σ y.slot = some v) : OfI t p σ0 M L (y.ins :: X) σ M1 ((bm, .map ⟨ents kU8 (kvSet es y.key v clk)⟩ clk') :: L) where
  le := h.le
  sub := h.sub
  own := fun hn => absurd (List.mem_cons_of_mem _ h0) hn
  first := fun z hz hi => ⟨List.mem_cons_of_mem _ h0, by
    rcases List.mem_cons.1 hi with e | hi
    · rw [(ofT_slot hz hy).2.2.2.1.1 e]; exact List.mem_cons_of_mem _ hb
    · exact List.mem_cons_of_mem _ (h.first z hz hi).2⟩
  map := fun _ => ⟨bm, _, clk', h5, rfl, fun q q1 q2 q3 q4 => by
    have := (ofT_slot hy hy).2.2.2.2.2.2.2.2
    rw [kvGet_set, if_neg (by omega)]; exact h3 q q1 q2 q3 q4, fun z hz hi => by
    rw [kvGet_set]
    by_cases e : y = z
    · subst e; rw [if_pos rfl]; exact hv.symm
    · rw [if_neg (fun e' => e ((ofT_slot hy hz).2.1.1 e'.symm))]
      rcases List.mem_cons.1 hi with e' | hi
      · exact absurd ((ofT_slot hy hz).2.2.2.1.1 e'.symm) e
      · exact h4 z hz hi⟩
  blt := fun z hz hi => by
    rcases List.mem_cons.1 hi with e' | hi
    · exact absurd e' (ofT_slot hz hy).2.2.2.2.1
    · exact h.blt z hz hi
end
theorem of_flat (t : Nat) (p : Value) (k : Int) : ofCs t p k = ((methL k).map fun nm => [mv t p nm]).flatten := by
  unfold ofCs
  induction methL k with
  | nil => rfl
  | cons x l ih => rw [List.map_cons, List.map_cons, List.flatten_cons, ih]; rfl
theorem of_sl {M : Mem} {b t : Nat} {p : Value} {k : Int} (h : M.blk b = some (.cells ⟨ofCs t p k⟩ 1 (0, 0))) : SlM M 1 (some ⟨b, 0, none⟩) (methL k).length ((methL k).map fun nm => [mv t p nm]) := by
  have := SlM.ofBlk (size := 1) h (of_flat t p k) (by simp)
  rwa [List.length_map] at this
theorem _root_.Go.Chi.pr_named {P : Program} {C : Cx} {n : Nat} {k : List Item} {ds : List Deferred} {σ : Env} {δ : Den} {M : Mem} {L : HL} {ops : Array Oper} {D X : List Nat} (h : ∀ σ1, σ1 = σ → PR P C n ops k ds D X σ1 δ M L) : PR P C n ops k ds D X σ δ M L := h σ rfl
theorem of_look {t : Nat} {p : Value} {σ0 : Env} {M : Mem} {L : HL} {X : List Nat} {σ : Env} {M1 : Mem} {L1 : HL} (h : OfI t p σ0 M L X σ M1 L1) {es : KV Int} (h3 : ∀ q : Int, q ≠ 1 → q ≠ 2 → q ≠ 3 → q ≠ 4 → kvGet es q = none) (h4 : ∀ y ∈ ofT, y.ins ∈ X → kvGet es y.key = lks σ y.slot)
    (hall : ∀ y ∈ ofT, y.bld ∈ X ∧ y.ins ∈ X) (k : Int) : ∃ v, lookRes false (kvGet es k) (.slice none 0 0) = v ∧ ∃ a c, v = .slice a (methL k).length c ∧ SlM M1 1 a (methL k).length ((methL k).map fun nm => [mv t p nm]) := by
  have key : ∀ y ∈ ofT, ∃ v, lookRes false (kvGet es y.key) (.slice none 0 0) = v ∧ ∃ a c, v = .slice a (methL y.key).length c ∧ SlM M1 1 a (methL y.key).length ((methL y.key).map fun nm => [mv t p nm]) := fun y hy => by
    obtain ⟨h5, h6⟩ := hall y hy
    obtain ⟨b, h7, h8⟩ := h.blt y hy h5
    rw [h4 y hy h6, h7]
    exact ⟨_, rfl, _, _, rfl, of_sl h8⟩
  rw [ofT_all] at key
  by_cases k1 : k = 1
  · subst k1; exact key.1
  by_cases k2 : k = 2
  · subst k2; exact key.2.1
  by_cases k3 : k = 3
  · subst k3; exact key.2.2.1
  by_cases k4 : k = 4
  · subst k4; exact key.2.2.2
  have hm : methL k = [] := by rw [methL, if_neg k1, if_neg k2, if_neg k3, if_neg k4]
  rw [h3 k k1 k2 k3 k4, hm]
  exact ⟨_, rfl, _, _, rfl, SlM.nil _ _ _⟩
end Go.Proofs.YtkjljcgbnikmkaaGreatDoor
namespace Go.Proofs.YtkjljcgbnikmkaaGreatDoor
open Go.Chi
set_option maxRecDepth 10000
set_option maxRecDepth 10000 in
set_option maxHeartbeats 16000000 in
theorem of_ok (M : Mem) (L : HL) (k : Int) (t : Nat) (p : Value) : Tr Tryz.prog 60 [.int .u8 k, .iface t p] M L (fun v M' L' => M.le M' ∧ L' = L ∧ ∃ a c, v = .slice a (methL k).length c ∧ SlM M' 1 a (methL k).length ((methL k).map fun nm => [mv t p nm])) := by
  refine Tr.intro 46 Tryz.func60 rfl rfl Tryz.call60 rfl ?_
  intro C hC hro
  refine run_seq ?_
  (refine run_region ?_; (repeat (first | refine zq ?_ | refine zx fun _ => ?_)); refine runL_nil ?_)
  refine run_seq ?_
  refine run_draw mixed ?_
  refine pr_q 1 (by decide +kernel) rfl (qt_pev tok rfl) rfl rfl rfl ?_
  refine pr_q 2 (by decide +kernel) rfl (qt_nilIface rfl) rfl rfl rfl ?_
  refine pr_q 3 (by decide +kernel) rfl (qt_pev tok rfl) rfl rfl rfl ?_
  refine pr_q 6 (by decide +kernel) rfl (qt_pev tok rfl) rfl rfl rfl ?_
  refine pr_q 7 (by decide +kernel) rfl (qt_nilIface rfl) rfl rfl rfl ?_
  refine pr_q 8 (by decide +kernel) rfl (qt_pev tok rfl) rfl rfl rfl ?_
  refine pr_q 9 (by decide +kernel) rfl (qt_pev tok rfl) rfl rfl rfl ?_
  refine pr_q 10 (by decide +kernel) rfl (qt_nilIface rfl) rfl rfl rfl ?_
  refine pr_q 11 (by decide +kernel) rfl (qt_pev tok rfl) rfl rfl rfl ?_
  refine pr_q 12 (by decide +kernel) rfl (qt_pev tok rfl) rfl rfl rfl ?_
  refine pr_q 13 (by decide +kernel) rfl (qt_nilIface rfl) rfl rfl rfl ?_
  refine pr_q 14 (by decide +kernel) rfl (qt_pev tok rfl) rfl rfl rfl ?_
  refine pr_q 15 (by decide +kernel) rfl (qt_pev tok rfl) rfl rfl rfl ?_
  refine pr_q 16 (by decide +kernel) rfl (qt_nilIface rfl) rfl rfl rfl ?_
  refine pr_q 17 (by decide +kernel) rfl (qt_pev tok rfl) rfl rfl rfl ?_
  refine pr_q 18 (by decide +kernel) rfl (qt_pev tok rfl) rfl rfl rfl ?_
  refine pr_q 19 (by decide +kernel) rfl (qt_nilIface rfl) rfl rfl rfl ?_
  refine pr_q 20 (by decide +kernel) rfl (qt_pev tok rfl) rfl rfl rfl ?_
  refine pr_q 23 (by decide +kernel) rfl (qt_pev tok rfl) rfl rfl rfl ?_
  refine pr_q 24 (by decide +kernel) rfl (qt_nilIface rfl) rfl rfl rfl ?_
  refine pr_q 25 (by decide +kernel) rfl (qt_pev tok rfl) rfl rfl rfl ?_
  refine pr_q 26 (by decide +kernel) rfl (qt_pev tok rfl) rfl rfl rfl ?_
  refine pr_q 27 (by decide +kernel) rfl (qt_nilIface rfl) rfl rfl rfl ?_
  refine pr_q 28 (by decide +kernel) rfl (qt_pev tok rfl) rfl rfl rfl ?_
  refine pr_q 29 (by decide +kernel) rfl (qt_pev tok rfl) rfl rfl rfl ?_
  refine pr_q 30 (by decide +kernel) rfl (qt_nilIface rfl) rfl rfl rfl ?_
  refine pr_q 31 (by decide +kernel) rfl (qt_pev tok rfl) rfl rfl rfl ?_
  refine pr_q 34 (by decide +kernel) rfl (qt_pev tok rfl) rfl rfl rfl ?_
  refine pr_q 35 (by decide +kernel) rfl (qt_nilIface rfl) rfl rfl rfl ?_
  refine pr_q 36 (by decide +kernel) rfl (qt_pev tok rfl) rfl rfl rfl ?_
  refine pr_q 37 (by decide +kernel) rfl (qt_pev tok rfl) rfl rfl rfl ?_
  refine pr_q 38 (by decide +kernel) rfl (qt_nilIface rfl) rfl rfl rfl ?_
  refine pr_q 39 (by decide +kernel) rfl (qt_pev tok rfl) rfl rfl rfl ?_
  refine pr_q 43 (by decide +kernel) rfl (qt_pev tok rfl) rfl rfl rfl ?_
  refine pr_named ?_
  intro σ0 hσ0
  refine pr_inv (Es := [0, 4, 21, 32, 40, 5, 22, 33, 41]) (OfI t p σ0 M L) (by decide +kernel) ?_ ?_ ?_ 9 [] σ0 M L (by decide) (fun x hx => by cases hx) (fun x hx => by cases hx) ⟨Mem.le_refl _, subE_refl (by rw [hσ0]; rfl), (fun _ => rfl), (fun _ _ h => by cases h), (fun h => by cases h), (fun _ _ h => by cases h)⟩
  · subst hσ0
    intro X σ M1 L1 hI e he hX hp
    simp only [List.mem_cons, List.not_mem_nil, or_false] at he
    rcases he with rfl | rfl | rfl | rfl | rfl | rfl | rfl | rfl | rfl
    · refine ⟨some 5, _, _, _, _, _, fun v => (5, v) :: σ, rfl, st_makeMapE kU8, fun a v hn hs => hs.put (by rw [hn]; decide) rfl rfl v, ?_⟩
      rintro v M' L' ⟨b, rfl, rfl, rfl⟩
      exact hI.make hX rfl b
    · refine ⟨some 9, _, _, _, _, _, fun v => (9, v) :: σ, rfl, St.sub hI.sub (St.frz1 (V := fun b => .slice (some ⟨b, 0, none⟩) 1 1) (st_buildSlice tok rfl rfl rfl rfl rfl rfl rfl)), fun a v hn hs => hs.put (by rw [hn]; decide) rfl rfl v, ?_⟩
      rintro v M' L' ⟨hM, rfl, b, rfl, hb⟩
      exact hI.build (y := ⟨4, 5, 9, 1⟩) (by simp [ofT]) hX rfl hM hb
    · refine ⟨some 25, _, _, _, _, _, fun v => (25, v) :: σ, rfl, St.sub hI.sub (St.frz1 (V := fun b => .slice (some ⟨b, 0, none⟩) 5 5) (st_buildSlice tok rfl rfl rfl rfl rfl rfl rfl)), fun a v hn hs => hs.put (by rw [hn]; decide) rfl rfl v, ?_⟩
      rintro v M' L' ⟨hM, rfl, b, rfl, hb⟩
      exact hI.build (y := ⟨21, 22, 25, 2⟩) (by simp [ofT]) hX rfl hM hb
    · refine ⟨some 35, _, _, _, _, _, fun v => (35, v) :: σ, rfl, St.sub hI.sub (St.frz1 (V := fun b => .slice (some ⟨b, 0, none⟩) 3 3) (st_buildSlice tok rfl rfl rfl rfl rfl rfl rfl)), fun a v hn hs => hs.put (by rw [hn]; decide) rfl rfl v, ?_⟩
      rintro v M' L' ⟨hM, rfl, b, rfl, hb⟩
      exact hI.build (y := ⟨32, 33, 35, 3⟩) (by simp [ofT]) hX rfl hM hb
    · refine ⟨some 42, _, _, _, _, _, fun v => (42, v) :: σ, rfl, St.sub hI.sub (St.frz1 (V := fun b => .slice (some ⟨b, 0, none⟩) 2 2) (st_buildSlice tok rfl rfl rfl rfl rfl rfl rfl)), fun a v hn hs => hs.put (by rw [hn]; decide) rfl rfl v, ?_⟩
      rintro v M' L' ⟨hM, rfl, b, rfl, hb⟩
      exact hI.build (y := ⟨40, 41, 42, 4⟩) (by simp [ofT]) hX rfl hM hb
    · have h0 : 0 ∈ X := (hp 0 (by decide +kernel)).resolve_right (by decide)
      have hb : 4 ∈ X := (hp 4 (by decide +kernel)).resolve_right (by decide)
      obtain ⟨bm, es, clk, h5, rfl, h3, h4⟩ := hI.map h0
      obtain ⟨b, h6, h7⟩ := hI.blt ⟨4, 5, 9, 1⟩ (by simp [ofT]) hb
      refine ⟨none, _, _, _, _, _, fun _ => σ, rfl, St.sub (σ' := [(5, .map (some bm)), (9, ofV b 1)]) ⟨h5, h6, trivial⟩ (st_mapUpdate (enc := kU8) tok (keyInt tok rfl) (.inr rfl) rfl rfl rfl rfl rfl (Upd.here _ _ _ _)), fun a v _ hs => hs, ?_⟩
      rintro v M' L' ⟨rfl, rfl, rfl⟩
      exact hI.put (y := ⟨4, 5, 9, 1⟩) (by simp [ofT]) hb h5 h3 h4 h0 h6
    · have h0 : 0 ∈ X := (hp 0 (by decide +kernel)).resolve_right (by decide)
      have hb : 21 ∈ X := (hp 21 (by decide +kernel)).resolve_right (by decide)
      obtain ⟨bm, es, clk, h5, rfl, h3, h4⟩ := hI.map h0
      obtain ⟨b, h6, h7⟩ := hI.blt ⟨21, 22, 25, 2⟩ (by simp [ofT]) hb
      refine ⟨none, _, _, _, _, _, fun _ => σ, rfl, St.sub (σ' := [(5, .map (some bm)), (25, ofV b 2)]) ⟨h5, h6, trivial⟩ (st_mapUpdate (enc := kU8) tok (keyInt tok rfl) (.inr rfl) rfl rfl rfl rfl rfl (Upd.here _ _ _ _)), fun a v _ hs => hs, ?_⟩
      rintro v M' L' ⟨rfl, rfl, rfl⟩
      exact hI.put (y := ⟨21, 22, 25, 2⟩) (by simp [ofT]) hb h5 h3 h4 h0 h6
    · have h0 : 0 ∈ X := (hp 0 (by decide +kernel)).resolve_right (by decide)
      have hb : 32 ∈ X := (hp 32 (by decide +kernel)).resolve_right (by decide)
      obtain ⟨bm, es, clk, h5, rfl, h3, h4⟩ := hI.map h0
      obtain ⟨b, h6, h7⟩ := hI.blt ⟨32, 33, 35, 3⟩ (by simp [ofT]) hb
      refine ⟨none, _, _, _, _, _, fun _ => σ, rfl, St.sub (σ' := [(5, .map (some bm)), (35, ofV b 3)]) ⟨h5, h6, trivial⟩ (st_mapUpdate (enc := kU8) tok (keyInt tok rfl) (.inr rfl) rfl rfl rfl rfl rfl (Upd.here _ _ _ _)), fun a v _ hs => hs, ?_⟩
      rintro v M' L' ⟨rfl, rfl, rfl⟩
      exact hI.put (y := ⟨32, 33, 35, 3⟩) (by simp [ofT]) hb h5 h3 h4 h0 h6
    · have h0 : 0 ∈ X := (hp 0 (by decide +kernel)).resolve_right (by decide)
      have hb : 40 ∈ X := (hp 40 (by decide +kernel)).resolve_right (by decide)
      obtain ⟨bm, es, clk, h5, rfl, h3, h4⟩ := hI.map h0
      obtain ⟨b, h6, h7⟩ := hI.blt ⟨40, 41, 42, 4⟩ (by simp [ofT]) hb
      refine ⟨none, _, _, _, _, _, fun _ => σ, rfl, St.sub (σ' := [(5, .map (some bm)), (42, ofV b 4)]) ⟨h5, h6, trivial⟩ (st_mapUpdate (enc := kU8) tok (keyInt tok rfl) (.inr rfl) rfl rfl rfl rfl rfl (Upd.here _ _ _ _)), fun a v _ hs => hs, ?_⟩
      rintro v M' L' ⟨rfl, rfl, rfl⟩
      exact hI.put (y := ⟨40, 41, 42, 4⟩) (by simp [ofT]) hb h5 h3 h4 h0 h6
  · intro X σ M1 L1 hI e _ _ M' L' σ' _ q hq a hs
    have hs := Sees.sub hI.sub hs
    clear hI
    subst hσ0
    refine PendAll.mem (qs := [39, 38, 37, 36, 35, 34, 31, 30, 29, 28, 27, 26, 25, 24, 23, 20, 19, 18, 17, 16, 15, 14, 13, 12, 11, 10, 9, 8, 7, 6, 3, 2, 1, 43]) ?_ q (by simp only [List.mem_cons, List.not_mem_nil, or_false] at hq ⊢; omega) a hs
    (repeat (first | exact trivial | refine And.intro (pend_q rfl rfl rfl (qt_pev tok rfl)) ?_ | refine And.intro (pend_q rfl rfl rfl (ql tok rfl)) ?_ | refine And.intro (pend_q rfl rfl rfl (qt_nilIface rfl)) ?_))
  · intro X σ M1 L1 hI hall hXs
    obtain ⟨bm, es, clk, h5, rfl, h3, h4⟩ := hI.map (hall 0 (by decide))
    obtain ⟨v, hv, a, c, rfl, hsl⟩ := of_look hI h3 h4 (by rw [ofT_all]; exact ⟨⟨hall 4 (by decide), hall 5 (by decide)⟩, ⟨hall 21 (by decide), hall 22 (by decide)⟩, ⟨hall 32 (by decide), hall 33 (by decide)⟩, ⟨hall 40 (by decide), hall 41 (by decide)⟩⟩) k
    refine pr_set (X' := X) (D' := 43 :: (List.range 42)) (fun i => ?_) (fun _ h => h) ?_
    · have e1 : ∀ i ∈ [0, 4, 21, 32, 40, 5, 22, 33, 41] ++ [43, 39, 38, 37, 36, 35, 34, 31, 30, 29, 28, 27, 26, 25, 24, 23, 20, 19, 18, 17, 16, 15, 14, 13, 12, 11, 10, 9, 8, 7, 6, 3, 2, 1], i ∈ 43 :: List.range 42 := by decide
      have e2 : ∀ i ∈ 43 :: List.range 42, i ∈ [0, 4, 21, 32, 40, 5, 22, 33, 41] ++ [43, 39, 38, 37, 36, 35, 34, 31, 30, 29, 28, 27, 26, 25, 24, 23, 20, 19, 18, 17, 16, 15, 14, 13, 12, 11, 10, 9, 8, 7, 6, 3, 2, 1] := by decide
      constructor
      · intro hi
        refine e1 i ?_
        rcases List.mem_append.1 hi with hi | hi
        · exact List.mem_append_left _ (hXs i hi)
        · exact List.mem_append_right _ hi
      · intro hi
        rcases List.mem_append.1 (e2 i hi) with hi | hi
        · exact List.mem_append_left _ (hall i hi)
        · exact List.mem_append_right _ hi
    refine pr_sub [(5, .map (some bm)), (44, .int .u8 k)] ⟨h5, subE_sound hI.sub 44 _ (by rw [hσ0]; rfl), trivial⟩ ?_
    refine pr_q 42 (by decide +kernel) rfl (qt_pev tok rfl) rfl rfl rfl ?_
    refine pr_q 44 (by decide +kernel) rfl (qt_lookupG (enc := kU8) tok (keyInt tok rfl) rfl rfl rfl rfl (.inl List.mem_cons_self) rfl rfl) rfl rfl rfl ?_
    refine pr_as 45 (.slice a (methL k).length c) rfl hv ?_
    refine pr_q 45 (by decide +kernel) rfl (qt_pev tok rfl) rfl rfl rfl ?_
    refine pr_end (by decide +kernel) (by decide +kernel) ?_
    repeat (first | refine zz ?_ | refine zx fun _ => ?_)
    exact run_ret hC (rs := [.tmp 4]) rfl (resT rfl resN) (fun _ h => h.drop) ⟨hI.le, rfl, a, c, rfl, hsl⟩
end Go.Proofs.YtkjljcgbnikmkaaGreatDoor
namespace Go.Proofs.YtkjljcgbnikmkaaGreatDoor
open Go.Chi
def _root_.Go.Chi.Rc.re (r : Rc) : Re := ⟨r.kind, r.epoch, r.txn, r.yes, r.auditor, r.mem.xs, r.tags.xs, r.body⟩
theorem sameRc_iff (a b : Rc) : sameRc a b = true ↔ a.re = b.re := by
  simp only [sameRc, txEq_eq, bytes_beq, Bool.and_eq_true, beq_iff_eq, decide_eq_true_eq, Rc.re, Re.mk.injEq, and_assoc]
theorem recE_iff {r : Rc} (hl : r.mem.xs.length = r.mem.len) (hl2 : r.tags.xs.length = r.tags.len) : recE r = 0 ↔ RecP r.re := by
  have h0 : recE r = 0 ↔ cA r = false ∧ cB r = false ∧ cC r = false ∧ cD r = false ∧ cE r = false ∧ cF r = false := by
    unfold recE
    cases cA r <;> cases cB r <;> cases cC r <;> cases cD r <;> cases cE r <;> cases cF r <;> simp
  rw [h0]
  have hA : cA r = false ↔ (1 ≤ r.kind ∧ r.kind ≤ 4) ∧ r.re = (bareR r).re := by
    rw [← sameRc_iff]
    unfold cA
    rw [Bool.or_eq_false_iff, Bool.or_eq_false_iff, decide_eq_false_iff_not, decide_eq_false_iff_not, Bool.not_eq_false']
    constructor
    · rintro ⟨⟨h1, h2⟩, h3⟩; exact ⟨by omega, h3⟩
    · rintro ⟨h1, h3⟩; exact ⟨by omega, h3⟩
  have hT : ∀ t : ByteArray, isT t = true ↔ checkR t = 0 := fun t => by simp [isT]
  obtain ⟨k, ep, t, y, a, ⟨ma, ml, mc, mx⟩, ⟨ta, tl, tc, tx⟩, b⟩ := r
  simp only at hl hl2
  subst hl hl2
  rw [hA]
  constructor
  · rintro ⟨⟨hk, hb⟩, h2, h3, h4, h5, h6⟩
    have hk4 : k = 1 ∨ k = 2 ∨ k = 3 ∨ k = 4 := by simp only at hk; omega
    rcases hk4 with rfl | rfl | rfl | rfl
    · simp [bareR, Rc.re, nilM, nilS] at hb
      obtain ⟨b1, b2, b3, b4, b5, b6⟩ := hb
      subst b1 b2 b3 b4 b5 b6
      simp [cB] at h2
      exact RecP.epoch ep (by omega) (by omega)
    · simp [bareR, Rc.re, nilS, fullR] at hb
      obtain ⟨b1, b2⟩ := hb
      subst b1 b2
      simp [cC] at h3
      simp [cD, fullR] at h4
      simp [cF] at h6
      exact RecP.vote t y a mx b h3 h4.1 h4.2 ((hT b).1 h6)
    · cases y
      · simp [bareR, Rc.re, nilM, nilS, fullR] at hb
        obtain ⟨b1, b2, b3, b4, b5⟩ := hb
        subst b1 b2 b3 b4 b5
        simp [cC] at h3
        exact RecP.abort t h3
      · simp [bareR, Rc.re, fullR] at hb
        obtain ⟨b1, b5⟩ := hb
        subst b1 b5
        simp [cC] at h3
        simp [cD, fullR] at h4
        simp [cE, tagN] at h5
        exact RecP.commit t a mx tx h3 h4.1 h4.2 (by omega) (fun x hx => (hT x).1 (h5.2 x hx))
    · simp [bareR, Rc.re, nilM, nilS, fullR] at hb
      obtain ⟨b1, b2, b3, b4, b5⟩ := hb
      subst b1 b2 b3 b4 b5
      simp [cC] at h3
      exact RecP.learn t y h3
  · intro h
    generalize hr : Rc.re _ = x at h
    cases h with
    | epoch e h1 h2 =>
      simp only [Rc.re, Re.mk.injEq] at hr
      obtain ⟨rfl, rfl, rfl, rfl, rfl, rfl, rfl, rfl⟩ := hr
      have e1 : ¬ ep < 1 := by omega
      have e2 : ¬ ep > 255 := by omega
      exact ⟨⟨by simp, by simp [bareR, Rc.re, nilM, nilS, bz]⟩, by simp [cB]; omega, by simp [cC], by simp [cD, fullR], by simp [cE, tagN], by simp [cF]⟩
    | vote t' y' a' m' b' h1 h2 h3 h4 =>
      simp only [Rc.re, Re.mk.injEq] at hr
      obtain ⟨rfl, rfl, rfl, rfl, rfl, rfl, rfl, rfl⟩ := hr
      exact ⟨⟨by simp, by simp [bareR, Rc.re, nilS, fullR]⟩, by simp [cB], by simp [cC, h1], by simp [cD, fullR, h2, h3], by simp [cE, tagN], by simp [cF, isT, h4]⟩
    | commit t' a' m' g' h1 h2 h3 h4 h5 =>
      simp only [Rc.re, Re.mk.injEq] at hr
      obtain ⟨rfl, rfl, rfl, rfl, rfl, rfl, rfl, rfl⟩ := hr
      exact ⟨⟨by simp, by simp [bareR, Rc.re, fullR, bz]⟩, by simp [cB], by simp [cC, h1], by simp [cD, fullR, h2, h3], by simp [cE, tagN, isT, h4]; exact h5, by simp [cF]⟩
    | abort t' h1 =>
      simp only [Rc.re, Re.mk.injEq] at hr
      obtain ⟨rfl, rfl, rfl, rfl, rfl, rfl, rfl, rfl⟩ := hr
      exact ⟨⟨by simp, by simp [bareR, Rc.re, nilM, nilS, fullR, bz]⟩, by simp [cB], by simp [cC, h1], by simp [cD, fullR], by simp [cE, tagN], by simp [cF]⟩
    | learn t' y' h1 =>
      simp only [Rc.re, Re.mk.injEq] at hr
      obtain ⟨rfl, rfl, rfl, rfl, rfl, rfl, rfl, rfl⟩ := hr
      exact ⟨⟨by simp, by simp [bareR, Rc.re, nilM, nilS, fullR, bz]⟩, by simp [cB], by simp [cC, h1], by simp [cD, fullR], by simp [cE, tagN], by simp [cF]⟩
end Go.Proofs.YtkjljcgbnikmkaaGreatDoor
namespace Go.Proofs.YtkjljcgbnikmkaaGreatDoor
open Go.Chi
set_option maxRecDepth 10000
theorem tsB_snoc (l : List ByteArray) (t : ByteArray) : tsB (l ++ [t]) = tsB l ++ textB t := by
  induction l with
  | nil => show textB t ++ bz = bz ++ textB t; rw [show bz = (⟨#[]⟩ : ByteArray) from rfl, app_nil, nil_app]
  | cons x l ih => show textB x ++ tsB (l ++ [t]) = (textB x ++ tsB l) ++ textB t; rw [ih, app_assoc]
theorem textB_sz {t : ByteArray} (h : t.size < 1099511627776) : (textB t).size ≤ t.size + 9 := by
  have := numB_size (v := t.size) (by omega)
  rw [textB, app_size]
  omega
theorem tsB_sz {l : List ByteArray} (h : ∀ t ∈ l, t.size < 1099511627776) : (tsB l).size ≤ l.length * 1099511627786 := by
  induction l with
  | nil => exact Nat.le_refl _
  | cons x l ih =>
    have h1 := ih fun t ht => h t (List.mem_cons_of_mem _ ht)
    have h2 := textB_sz (h x List.mem_cons_self)
    have h3 := h x List.mem_cons_self
    rw [tsB, app_size, List.length_cons]
    omega
set_option maxHeartbeats 4000000 in
theorem orow_ok (M : Mem) (L : HL) (s : SStr) (hs : StOk M s) (hb : ∀ t ∈ s.xs, t.size < 1099511627776) : TrQ Tryz.prog 178 [s.v] M L (.string (tsB s.xs)) := by
  have hx1 := hs.len
  have hlt6 := hs.2
  refine Tr.intro 18 Tryz.func178 rfl rfl Tryz.call178 rfl ?_
  intro C hC hro
  repeat (first | refine zz ?_ | refine zx fun _ => ?_)
  refine run_loopN (fun j σ1 M1 L1 => j ≤ s.len ∧ M = M1 ∧ L = L1 ∧ σ1 = [(8, .int .i64 (j : Int)), (7, .int .i64 (s.len : Int)), (6, s.v), (3, .string (tsB (s.xs.take j)))]) s.len [(8, .int .i64 ((0 : Nat) : Int)), (7, .int .i64 (s.len : Int)), (6, s.v), (3, .string (tsB (s.xs.take 0)))] ?_ ⟨Nat.zero_le _, rfl, rfl, rfl⟩ (fun j _ _ _ h => h.1) ?_
  · exact ⟨rfl, rfl, rfl, rfl, trivial⟩
  rintro j _ _ _ ⟨hj, rfl, rfl, rfl⟩ hnext
  repeat (first | refine zz ?_ | refine zx fun _ => ?_)
  refine run_cond rfl (fun h => ?_) (fun h => ?_)
  · have hlt : j < s.len := by simpa using h
    obtain ⟨b, off, m, hma, hm, hc⟩ := SStr.at_ hs.1 hlt
    have hv : s.v = .slice (some ⟨b, off, none⟩) s.len s.cap := by rw [← hma]; rfl
    have hsz := hb m (List.mem_of_getElem? hm)
    have hsz2 := textB_sz hsz
    have hsz3 := tsB_sz (l := s.xs.take j) fun t ht => hb t (List.mem_of_mem_take ht)
    have hsz4 : (s.xs.take j).length ≤ 1000000 := by rw [List.length_take]; omega
    have hsz5 : (s.xs.take j).length * 1099511627786 ≤ 1000000 * 1099511627786 := Nat.mul_le_mul_right _ hsz4
    refine run_as 6 (.slice (some ⟨b, off, none⟩) s.len s.cap) rfl hv ?_
    repeat (first | refine zz ?_ | refine zx fun _ => ?_ | refine runL_q (qt_indexN tok rfl rfl rfl rfl (fun _ => by omega)) rfl rfl rfl ?_ | refine runL_g rfl rfl (qt_indexN tok rfl rfl rfl rfl (fun _ => by omega)) rfl rfl rfl rfl rfl ?_ | refine runL_q (qt_ldM tok rfl hc rfl) rfl rfl rfl ?_ | refine runL_g rfl rfl (qt_ldM tok rfl hc rfl) rfl rfl rfl rfl rfl ?_ | refine runL_q (qt_ldM0 tok rfl hc rfl) rfl rfl rfl ?_ | refine runL_g rfl rfl (qt_ldM0 tok rfl hc rfl) rfl rfl rfl rfl rfl ?_ | refine runL_q (qt_callF rfl (fun _ => otext_ok _ _ m (by omega))) rfl rfl rfl ?_ | refine runL_q (qt_concat rfl rfl (by omega)) rfl rfl rfl ?_)
    exact run_sub' (hnext _ _ _ ⟨hlt, rfl, rfl, rfl⟩) ⟨lk_succ rfl (by omega), rfl, by rw [hv]; rfl, by rw [take_snoc hm, tsB_snoc]; rfl, trivial⟩
  · have hge : j = s.len := by simp at h; omega
    subst hge
    repeat (first | refine zz ?_ | refine zx fun _ => ?_)
    exact run_ret hC (rs := [.tmp 2]) rfl (resT rfl resN) (fun _ h => h) ⟨by rw [List.take_of_length_le (by omega)]; rfl, rfl, rfl⟩
end Go.Proofs.YtkjljcgbnikmkaaGreatDoor
namespace Go.Proofs.YtkjljcgbnikmkaaGreatDoor
open Go.Chi
set_option maxRecDepth 10000
def wrC (br : Nat) (s : ByteArray) : List Value := [.pointer (some ⟨br, 0, none⟩), .string s]
abbrev wrB (bw br : Nat) (s : ByteArray) : Nat × Obj := (bw, .cells ⟨wrC br s⟩ 102 (0, 0))
def inC (n : Int) : List Value := [.int .i64 n]
def nsB : List Int → ByteArray
  | [] => bz
  | n :: l => nB n ++ nsB l
theorem nsB_snoc (l : List Int) (n : Int) : nsB (l ++ [n]) = nsB l ++ nB n := by
  induction l with
  | nil => show nB n ++ bz = bz ++ nB n; rw [show bz = (⟨#[]⟩ : ByteArray) from rfl, app_nil, nil_app]
  | cons x l ih => show nB x ++ nsB (l ++ [n]) = (nB x ++ nsB l) ++ nB n; rw [ih, app_assoc]
theorem nB_size {n : Int} (h : n < 4611686018427387904) : (nB n).size ≤ 9 := (numB_size (v := n.toNat) (by omega)).2
theorem nsB_size {l : List Int} (h : ∀ n ∈ l, 0 ≤ n ∧ n < 4611686018427387904) : (nsB l).size ≤ 9 * l.length := by
  induction l with
  | nil => exact Nat.le_refl _
  | cons x l ih =>
    have h1 := ih fun t ht => h t (List.mem_cons_of_mem _ ht)
    have h2 := nB_size (h x List.mem_cons_self).2
    rw [nsB, app_size, List.length_cons]
    omega
theorem SInt.at_ {M : Mem} {a : Option Addr} {len : Nat} {xs : List Int} (h : SlM M 1 a len (xs.map inC)) {j : Nat} (hj : j < len) : ∃ b off m, a = some ⟨b, off, none⟩ ∧ xs[j]? = some m ∧ Cells M [] b (off + j * 1) (inC m) := by
  obtain ⟨b, off, c, ha, hc, _, hcells⟩ := h.at_ hj
  obtain ⟨m, hm, rfl⟩ : ∃ m, xs[j]? = some m ∧ inC m = c := by simpa using hc
  exact ⟨b, off, m, ha, hm, hcells⟩
set_option maxRecDepth 10000 in
set_option maxHeartbeats 8000000 in
theorem wnums_ok (M : Mem) (L : HL) (bw br : Nat) (s : ByteArray) (a : Option Addr) (len cap : Nat) (ns : List Int) (hsl : SlM M 1 a len (ns.map inC)) (hl : len < 1000000) (hn : ∀ n ∈ ns, 0 ≤ n ∧ n < 4611686018427387904) (hs : s.size < 2305843009213693952) :
    Tr Tryz.prog 177 [.pointer (some ⟨bw, 0, none⟩), .slice a len cap] M (wrB bw br s :: L) (fun v M' L' => v = .tuple ⟨[]⟩ ∧ M' = M ∧ L' = wrB bw br (s ++ nsB ns) :: L) := by
  have hx1 : ns.length = len := by have := hsl.1; simpa using this
  refine Tr.intro 23 Tryz.func177 rfl rfl Tryz.call177 rfl ?_
  intro C hC hro
  repeat (first | refine zz ?_ | refine zx fun _ => ?_)
  refine run_loopN (fun j σ1 M1 L1 => j ≤ len ∧ M = M1 ∧ L1 = wrB bw br (s ++ nsB (ns.take j)) :: L ∧ σ1 = [(8, .int .i64 (j : Int)), (7, .int .i64 (len : Int)), (6, .slice a len cap), (0, .pointer (some ⟨bw, 0, none⟩))]) len [(8, .int .i64 ((0 : Nat) : Int)), (7, .int .i64 (len : Int)), (6, .slice a len cap), (0, .pointer (some ⟨bw, 0, none⟩))] ?_ ⟨Nat.zero_le _, rfl, by rw [List.take_zero, nsB, show bz = (⟨#[]⟩ : ByteArray) from rfl, app_nil], rfl⟩ (fun j _ _ _ h => h.1) ?_
  · exact ⟨rfl, rfl, rfl, rfl, trivial⟩
  rintro j _ _ _ ⟨hj, rfl, rfl, rfl⟩ hnext
  repeat (first | refine zz ?_ | refine zx fun _ => ?_)
  refine run_cond rfl (fun h => ?_) (fun h => ?_)
  · have hlt : j < len := by simpa using h
    obtain ⟨b, off, m, rfl, hm, hc⟩ := SInt.at_ hsl hlt
    have hmn := hn m (List.mem_of_getElem? hm)
    have hsz2 := nB_size hmn.2
    have hsz3 := nsB_size (l := ns.take j) fun t ht => hn t (List.mem_of_mem_take ht)
    have hsz4 : (ns.take j).length ≤ 1000000 := by rw [List.length_take]; omega
    have e1 : IntKind.u64.wrap m = ((m.toNat : Nat) : Int) := by
      rw [show m = ((m.toNat : Nat) : Int) by omega, u64_nat (by omega)]
      simp
    have e2 : (s ++ nsB (ns.take j)).size + (numB m.toNat).size < 4611686018427387904 := by
      rw [app_size]
      have : (numB m.toNat).size ≤ 9 := hsz2
      omega
    repeat (first | refine zz ?_ | refine zx fun _ => ?_ | refine runL_q (qt_indexN tok rfl rfl rfl rfl (fun _ => by omega)) rfl rfl rfl ?_ | refine runL_g rfl rfl (qt_indexN tok rfl rfl rfl rfl (fun _ => by omega)) rfl rfl rfl rfl rfl ?_ | refine runL_q (qt_ldM tok rfl hc rfl) rfl rfl rfl ?_ | refine runL_g rfl rfl (qt_ldM tok rfl hc rfl) rfl rfl rfl rfl rfl ?_ | refine runL_q (qt_ldM0 tok rfl hc rfl) rfl rfl rfl ?_ | refine runL_g rfl rfl (qt_ldM0 tok rfl hc rfl) rfl rfl rfl rfl rfl ?_)
    repeat (first | refine zz ?_ | refine zx fun _ => ?_ | refine dd ?_ | refine dz ?_ | refine dx fun _ => ?_ | refine prn_q rfl (qt_indexN tok rfl rfl rfl rfl (fun _ => by omega)) (by decide +kernel) rfl rfl rfl ?_ | refine prn_gK rfl rfl rfl (qt_indexN tok rfl rfl rfl rfl (fun _ => by omega)) (by decide +kernel) rfl rfl rfl ?_ | refine prn_gF rfl rfl rfl (by decide +kernel) rfl rfl rfl ?_ | refine prn_g rfl rfl rfl (qt_indexN tok rfl rfl rfl rfl (fun _ => by omega)) (by decide +kernel) rfl rfl rfl rfl rfl ?_ | refine prn_q rfl (qt_ldM tok rfl hc rfl) (by decide +kernel) rfl rfl rfl ?_ | refine prn_gK rfl rfl rfl (qt_ldM tok rfl hc rfl) (by decide +kernel) rfl rfl rfl ?_ | refine prn_gF rfl rfl rfl (by decide +kernel) rfl rfl rfl ?_ | refine prn_g rfl rfl rfl (qt_ldM tok rfl hc rfl) (by decide +kernel) rfl rfl rfl rfl rfl ?_ | refine prn_q rfl (qt_ldM0 tok rfl hc rfl) (by decide +kernel) rfl rfl rfl ?_ | refine prn_gK rfl rfl rfl (qt_ldM0 tok rfl hc rfl) (by decide +kernel) rfl rfl rfl ?_ | refine prn_gF rfl rfl rfl (by decide +kernel) rfl rfl rfl ?_ | refine prn_g rfl rfl rfl (qt_ldM0 tok rfl hc rfl) (by decide +kernel) rfl rfl rfl rfl rfl ?_)
    refine pr_as 17 (.int .u64 ((m.toNat : Nat) : Int)) rfl (by rw [e1]) ?_
    repeat (first | refine zz ?_ | refine zx fun _ => ?_ | refine dd ?_ | refine dz ?_ | refine dx fun _ => ?_ | refine prn_q rfl (qt_callF rfl (fun _ => onum_ok _ _ m.toNat (by omega))) (by decide +kernel) rfl rfl rfl ?_ | refine prn_q rfl (qt_concat rfl rfl e2) (by decide +kernel) rfl rfl rfl ?_)
    refine run_sub' (hnext _ _ _ ⟨hlt, rfl, ?_, rfl⟩) ⟨lk_succ rfl (by omega), rfl, rfl, rfl, trivial⟩
    rw [take_snoc hm, nsB_snoc, ← app_assoc]
    rfl
  · have hge : j = len := by simp at h; omega
    subst hge
    repeat (first | refine zz ?_ | refine zx fun _ => ?_)
    exact run_end hC (rs := []) rfl resN (fun _ h => h) ⟨rfl, rfl, by rw [List.take_of_length_le (by omega)]⟩
set_option maxRecDepth 10000 in
set_option maxHeartbeats 8000000 in
theorem wauditor_ok (M : Mem) (L : HL) (bw br : Nat) (s : ByteArray) (r : Rc) (hr : Cells M [] br 0 (rcC r)) (hn : 0 ≤ r.auditor ∧ r.auditor < 4611686018427387904) (hs : s.size < 2305843009213693952) :
    Tr Tryz.prog 170 [.pointer (some ⟨bw, 0, none⟩)] M (wrB bw br s :: L) (fun v M' L' => v = .tuple ⟨[]⟩ ∧ M.le M' ∧ L' = wrB bw br (s ++ nB r.auditor) :: L) := by
  refine Tr.intro 12 Tryz.func170 rfl rfl Tryz.call170 rfl ?_
  intro C hC hro
  refine run_region ?_
  iterate 8 (first | refine zk ?_ | refine zx fun _ => ?_ | refine runL_q (qt_ldM (k := 6) tok rfl hr rfl) rfl rfl rfl ?_)
  refine runL_op (St.frz1 (V := fun b => .slice (some ⟨b, 0, none⟩) 1 1) (st_buildSlice tok rfl rfl rfl rfl rfl rfl rfl)) rfl rfl rfl ?_
  rintro _ M1 _ ⟨hM1, rfl, bs, rfl, hbs⟩
  have hsl := SlM.ofBlk (M := M1) (b := bs) (size := 1) (ls := [inC r.auditor]) hbs rfl (by simp [inC])
  refine runL_op (st_callF rfl (fun _ => wnums_ok M1 L bw br s _ 1 1 [r.auditor] (by simpa using hsl) (by omega) (by simpa using hn) hs)) rfl rfl rfl ?_
  rintro _ _ _ ⟨rfl, rfl, rfl⟩
  repeat (first | refine zz ?_ | refine zx fun _ => ?_)
  exact run_end hC (rs := []) rfl resN (fun _ h => h) ⟨rfl, hM1, by rw [nsB, nsB, show bz = (⟨#[]⟩ : ByteArray) from rfl, app_nil]⟩
end Go.Proofs.YtkjljcgbnikmkaaGreatDoor
namespace Go.Proofs.YtkjljcgbnikmkaaGreatDoor
open Go.Chi
set_option maxRecDepth 10000
theorem wnumsG (M : Mem) (L : HL) (bw br : Nat) (s : ByteArray) (b et len : Nat) (cs : List Value) (ns : List Int) (hcs : cs = (ns.map inC).flatten) (hl : ns.length = len) (hlt : len < 1000000) (hn : ∀ n ∈ ns, 0 ≤ n ∧ n < 4611686018427387904) (hs : s.size < 2305843009213693952) :
    Tr Tryz.prog 177 [.pointer (some ⟨bw, 0, none⟩), .slice (some ⟨b, 0, none⟩) len len] M ((b, .cells ⟨cs⟩ et (0, 0)) :: wrB bw br s :: L) (fun v M' L' => v = .tuple ⟨[]⟩ ∧ M.le M' ∧ L' = wrB bw br (s ++ nsB ns) :: L) :=
  Tr.give (N := [(b, .cells ⟨cs⟩ et (0, 0))]) (fun w => Tryz.call177 _ w) fun M' hM hb => by
    have hsl := SlM.ofBlk (M := M') (b := b) (size := 1) (ls := ns.map inC) (hb b _ List.mem_cons_self) hcs (by simp [inC])
    rw [List.length_map, hl] at hsl
    exact (wnums_ok M' L bw br s _ len len ns hsl hlt hn hs).mono fun _ _ _ ⟨h1, h2, h3⟩ => ⟨h1, h2 ▸ hM, h3⟩
theorem nsB_one (n : Int) : nsB [n] = nB n := by rw [nsB, nsB, show bz = (⟨#[]⟩ : ByteArray) from rfl, app_nil]
theorem nsB_tx (t : Tx) : nsB [t.coord, t.epoch, t.seq] = txB t := by rw [nsB, nsB, nsB_one]; rfl
set_option maxRecDepth 10000 in
set_option maxHeartbeats 8000000 in
theorem wepoch_ok (M : Mem) (L : HL) (bw br : Nat) (s : ByteArray) (r : Rc) (hr : Cells M [] br 0 (rcC r)) (hn : 0 ≤ r.epoch ∧ r.epoch < 4611686018427387904) (hs : s.size < 2305843009213693952) :
    Tr Tryz.prog 172 [.pointer (some ⟨bw, 0, none⟩)] M (wrB bw br s :: L) (fun v M' L' => v = .tuple ⟨[]⟩ ∧ M.le M' ∧ L' = wrB bw br (s ++ nB r.epoch) :: L) := by
  refine Tr.intro 12 Tryz.func172 rfl rfl Tryz.call172 rfl ?_
  intro C hC hro
  refine run_region ?_
  iterate 8 (first | refine zk ?_ | refine zx fun _ => ?_ | refine runL_q (qt_ldM (k := 1) tok rfl hr rfl) rfl rfl rfl ?_)
  refine runL_op (St.frz1 (V := fun b => .slice (some ⟨b, 0, none⟩) 1 1) (st_buildSlice tok rfl rfl rfl rfl rfl rfl rfl)) rfl rfl rfl ?_
  rintro _ M1 _ ⟨hM1, rfl, bs, rfl, hbs⟩
  have hsl := SlM.ofBlk (M := M1) (b := bs) (size := 1) (ls := [inC r.epoch]) hbs rfl (by simp [inC])
  refine runL_op (st_callF rfl (fun _ => wnums_ok M1 L bw br s _ 1 1 [r.epoch] (by simpa using hsl) (by omega) (by simpa using hn) hs)) rfl rfl rfl ?_
  rintro _ _ _ ⟨rfl, rfl, rfl⟩
  repeat (first | refine zz ?_ | refine zx fun _ => ?_)
  exact run_end hC (rs := []) rfl resN (fun _ h => h) ⟨rfl, hM1, by rw [nsB, nsB, show bz = (⟨#[]⟩ : ByteArray) from rfl, app_nil]⟩
set_option maxRecDepth 10000 in
set_option maxHeartbeats 8000000 in
theorem wyes_ok (M : Mem) (L : HL) (bw br : Nat) (s : ByteArray) (r : Rc) (hr : Cells M [] br 0 (rcC r)) (hs : s.size < 2305843009213693952) :
    Tr Tryz.prog 176 [.pointer (some ⟨bw, 0, none⟩)] M (wrB bw br s :: L) (fun v M' L' => v = .tuple ⟨[]⟩ ∧ M.le M' ∧ L' = wrB bw br (s ++ yB r.yes) :: L) := by
  refine Tr.intro 15 Tryz.func176 rfl rfl Tryz.call176 rfl ?_
  intro C hC hro
  repeat (first | refine zz ?_ | refine zx fun _ => ?_ | refine runL_q (qt_ldM (k := 5) tok rfl hr rfl) rfl rfl rfl ?_)
  refine run_cond rfl (fun h => ?_) (fun h => ?_)
  · repeat (first | refine zz ?_ | refine zx fun _ => ?_ | refine runL_op (st_callF rfl (fun _ => wnumsG _ L bw br s _ _ _ _ [1] rfl rfl (by decide) (by decide) hs)) rfl rfl rfl ?_; rintro _ M1 _ ⟨rfl, hM1, rfl⟩)
    exact run_end hC (rs := []) rfl resN (fun _ h => h) ⟨rfl, hM1, by rw [nsB_one, yB, if_pos h]⟩
  · repeat (first | refine zz ?_ | refine zx fun _ => ?_ | refine runL_op (st_callF rfl (fun _ => wnumsG _ L bw br s _ _ _ _ [0] rfl rfl (by decide) (by decide) hs)) rfl rfl rfl ?_; rintro _ M1 _ ⟨rfl, hM1, rfl⟩)
    exact run_end hC (rs := []) rfl resN (fun _ h => h) ⟨rfl, hM1, by rw [nsB_one, yB, if_neg (by rw [h]; decide)]⟩
set_option maxRecDepth 10000 in
set_option maxHeartbeats 8000000 in
theorem wtxn_ok (M : Mem) (L : HL) (bw br : Nat) (s : ByteArray) (r : Rc) (hr : Cells M [] br 0 (rcC r)) (hn : mayTx r.txn = true) (hs : s.size < 2305843009213693952) :
    Tr Tryz.prog 175 [.pointer (some ⟨bw, 0, none⟩)] M (wrB bw br s :: L) (fun v M' L' => v = .tuple ⟨[]⟩ ∧ M.le M' ∧ L' = wrB bw br (s ++ txB r.txn) :: L) := by
  refine Tr.intro 29 Tryz.func175 rfl rfl Tryz.call175 rfl ?_
  intro C hC hro
  repeat (first | refine zz ?_ | refine zx fun _ => ?_ | refine dd ?_ | refine dz ?_ | refine dx fun _ => ?_ | refine prn_q rfl (qt_ldM (k := 2) tok rfl hr rfl) (by decide +kernel) rfl rfl rfl ?_ | refine prn_q rfl (qt_ldM (k := 3) tok rfl hr rfl) (by decide +kernel) rfl rfl rfl ?_ | refine prn_q rfl (qt_ldM (k := 4) tok rfl hr rfl) (by decide +kernel) rfl rfl rfl ?_)
  have h1 := mayTx_r hn
  refine prn_e1 rfl (st_callF rfl (fun _ => wnumsG _ L bw br s _ _ _ _ [r.txn.coord, r.txn.epoch, r.txn.seq] rfl rfl (by decide) (by simp; omega) hs)) (by decide +kernel) rfl rfl rfl ?_
  rintro _ M1 _ ⟨rfl, hM1, rfl⟩
  repeat (first | refine zz ?_ | refine zx fun _ => ?_ | refine dd ?_ | refine dz ?_ | refine dx fun _ => ?_)
  exact run_end hC (rs := []) rfl resN (fun _ h => h) ⟨rfl, hM1, by rw [nsB_tx]⟩
end Go.Proofs.YtkjljcgbnikmkaaGreatDoor
namespace Go.Proofs.YtkjljcgbnikmkaaGreatDoor
open Go.Chi
set_option maxRecDepth 10000
set_option maxRecDepth 10000 in
set_option maxHeartbeats 8000000 in
theorem wbody_ok (M : Mem) (L : HL) (bw br : Nat) (s : ByteArray) (r : Rc) (hr : Cells M [] br 0 (rcC r)) (hb : r.body.size < 1099511627776) (hs : s.size < 2305843009213693952) :
    Tr Tryz.prog 171 [.pointer (some ⟨bw, 0, none⟩)] M (wrB bw br s :: L) (fun v M' L' => v = .tuple ⟨[]⟩ ∧ M.le M' ∧ L' = wrB bw br (s ++ textB r.body) :: L) := by
  have hz := textB_sz hb
  refine Tr.intro 17 Tryz.func171 rfl rfl Tryz.call171 rfl ?_
  intro C hC hro
  repeat (first | refine zz ?_ | refine zx fun _ => ?_ | refine dd ?_ | refine dz ?_ | refine dx fun _ => ?_ | refine prn_q rfl (qt_ldM (k := 9) tok rfl hr rfl) (by decide +kernel) rfl rfl rfl ?_ | refine prn_q rfl (qt_callF rfl (fun _ => otext_ok _ _ r.body (by omega))) (by decide +kernel) rfl rfl rfl ?_ | refine prn_q rfl (qt_concat rfl rfl (by omega)) (by decide +kernel) rfl rfl rfl ?_)
  exact run_end hC (rs := []) rfl resN (fun _ h => h) ⟨rfl, Mem.le_refl _, rfl⟩
theorem trPerm {P : Program} {f : FuncId} {args : List Value} {M : Mem} {L L' : HL} {K : Value → Mem → HL → Prop} (hp : L.Perm L') (h : Tr P f args M L' K) : Tr P f args M L K := ⟨h.1, fun w hw => h.2 w (hw.perm hp)⟩
def mbLim (l : List Mb) : Prop := ∀ m ∈ l, (0 ≤ m.org ∧ m.org ≤ 7) ∧ m.digest.size < 1099511627776
theorem mbB_snoc (l : List Mb) (m : Mb) : mbB (l ++ [m]) = mbB l ++ (nB m.org ++ textB m.digest) := by
  induction l with
  | nil => show nB m.org ++ (textB m.digest ++ bz) = bz ++ _; rw [show bz = (⟨#[]⟩ : ByteArray) from rfl, app_nil, nil_app]
  | cons x l ih => show nB x.org ++ (textB x.digest ++ mbB (l ++ [m])) = (nB x.org ++ (textB x.digest ++ mbB l)) ++ _; rw [ih]; simp only [app_assoc]
theorem mbB_sz {l : List Mb} (h : mbLim l) : (mbB l).size ≤ l.length * 1099511627800 := by
  induction l with
  | nil => exact Nat.le_refl _
  | cons x l ih =>
    have h1 := ih fun t ht => h t (List.mem_cons_of_mem _ ht)
    obtain ⟨h2, h3⟩ := h x List.mem_cons_self
    have h4 := textB_sz h3
    have h5 := nB_size (n := x.org) (by omega)
    show (nB x.org ++ (textB x.digest ++ mbB l)).size ≤ _
    rw [app_size, app_size, List.length_cons]
    omega
set_option maxRecDepth 10000 in
set_option maxHeartbeats 8000000 in
theorem wmembers_ok (M : Mem) (L : HL) (bw br : Nat) (s : ByteArray) (r : Rc) (hr : Cells M [] br 0 (rcC r)) (hm : MbOk M r.mem) (hml : mbLim r.mem.xs) (hs : s.size < 1099511627776) :
    Tr Tryz.prog 173 [.pointer (some ⟨bw, 0, none⟩)] M (wrB bw br s :: L) (fun v M' L' => v = .tuple ⟨[]⟩ ∧ M.le M' ∧ L' = wrB bw br (s ++ msB r.mem.xs) :: L) := by
  have hx1 := hm.len
  have hlt6 := hm.2
  refine Tr.intro 43 Tryz.func173 rfl rfl Tryz.call173 rfl ?_
  intro C hC hro
  repeat (first | refine zz ?_ | refine zx fun _ => ?_ | refine runL_q (qt_ldM (k := 7) tok rfl hr rfl) rfl rfl rfl ?_ | refine runL_op (st_callF rfl (fun _ => wnumsG _ L bw br s _ _ _ _ [(r.mem.len : Int)] rfl rfl (by decide) (by simp; omega) (by omega))) rfl rfl rfl ?_; rintro _ M1 _ ⟨rfl, hM1, rfl⟩)
  have hr1 := hr.le hM1
  repeat (first | refine zz ?_ | refine zx fun _ => ?_ | refine runL_q (qt_ldM (k := 7) tok rfl hr1 rfl) rfl rfl rfl ?_)
  have hm1 := hm.le hM1
  refine run_loopN (fun j σ1 M2 L1 => j ≤ r.mem.len ∧ M1.le M2 ∧ L1 = wrB bw br (s ++ (nB (r.mem.len : Int) ++ mbB (r.mem.xs.take j))) :: L ∧ σ1 = [(23, .int .i64 (j : Int)), (22, .int .i64 (r.mem.len : Int)), (21, r.mem.v), (0, .pointer (some ⟨bw, 0, none⟩))]) r.mem.len [(23, .int .i64 ((0 : Nat) : Int)), (22, .int .i64 (r.mem.len : Int)), (21, r.mem.v), (0, .pointer (some ⟨bw, 0, none⟩))] ?_ ⟨Nat.zero_le _, Mem.le_refl _, by rw [List.take_zero, mbB, show bz = (⟨#[]⟩ : ByteArray) from rfl, app_nil, nsB_one], rfl⟩ (fun j _ _ _ h => h.1) ?_
  · exact ⟨rfl, rfl, rfl, rfl, trivial⟩
  rintro j _ M2 _ ⟨hj, hM2, rfl, rfl⟩ hnext
  repeat (first | refine zz ?_ | refine zx fun _ => ?_)
  refine run_cond rfl (fun h => ?_) (fun h => ?_)
  · have hlt : j < r.mem.len := by simpa using h
    obtain ⟨b, off, m, hma, hmj, hc⟩ := SMb.at_ (hm1.le hM2).1 hlt
    have hv : r.mem.v = .slice (some ⟨b, off, none⟩) r.mem.len r.mem.cap := by rw [← hma]; rfl
    obtain ⟨hml1, hml2⟩ := hml m (List.mem_of_getElem? hmj)
    refine run_as 21 (.slice (some ⟨b, off, none⟩) r.mem.len r.mem.cap) rfl hv ?_
    have hz1 := textB_sz hml2
    have hz2 := nB_size (n := m.org) (by omega)
    have hz3 := nB_size (n := (r.mem.len : Int)) (by omega)
    have hz4 := mbB_sz (l := r.mem.xs.take j) fun t ht => hml t (List.mem_of_mem_take ht)
    have hz5 : (r.mem.xs.take j).length ≤ 1000000 := by rw [List.length_take]; omega
    have hz6 : (r.mem.xs.take j).length * 1099511627800 ≤ 1000000 * 1099511627800 := Nat.mul_le_mul_right _ hz5
    have hz7 : (s ++ (nB (r.mem.len : Int) ++ mbB (r.mem.xs.take j))).size < 2305843009213693952 := by rw [app_size, app_size]; omega
    repeat (first | refine zz ?_ | refine zx fun _ => ?_ | refine runL_q (qt_indexN tok rfl rfl rfl rfl (fun _ => by omega)) rfl rfl rfl ?_ | refine runL_g rfl rfl (qt_indexN tok rfl rfl rfl rfl (fun _ => by omega)) rfl rfl rfl rfl rfl ?_ | refine runL_q (qt_ldM tok rfl hc rfl) rfl rfl rfl ?_ | refine runL_g rfl rfl (qt_ldM tok rfl hc rfl) rfl rfl rfl rfl rfl ?_ | refine runL_q (qt_ldM0 tok rfl hc rfl) rfl rfl rfl ?_ | refine runL_g rfl rfl (qt_ldM0 tok rfl hc rfl) rfl rfl rfl rfl rfl ?_)
    refine runL_op (st_callF rfl (fun _ => trPerm ((List.Perm.swap _ _ _).cons _) (wnumsG M2 (_ :: L) bw br _ _ _ _ _ [m.org] rfl rfl (by decide) (by simp; omega) hz7))) rfl rfl rfl ?_
    rintro _ M3 _ ⟨rfl, hM3, rfl⟩
    have hz8 : ((s ++ (nB (r.mem.len : Int) ++ mbB (r.mem.xs.take j))) ++ nsB [m.org]).size + (textB m.digest).size < 4611686018427387904 := by rw [app_size, nsB_one]; omega
    repeat (first | refine zz ?_ | refine zx fun _ => ?_)
    repeat (first | refine zz ?_ | refine zx fun _ => ?_ | refine dd ?_ | refine dz ?_ | refine dx fun _ => ?_ | refine prn_q rfl (qt_callF rfl (fun _ => otext_ok _ _ m.digest (by omega))) (by decide +kernel) rfl rfl rfl ?_ | refine prn_q rfl (qt_concat rfl rfl hz8) (by decide +kernel) rfl rfl rfl ?_)
    refine run_mem (fun _ h => (h.perm (List.Perm.swap _ _ _)).drop) (run_sub' (hnext _ _ _ ⟨hlt, Mem.le_trans hM2 hM3, ?_, rfl⟩) ⟨lk_succ rfl (by omega), rfl, by rw [hv]; rfl, rfl, trivial⟩)
    rw [take_snoc hmj, mbB_snoc, nsB_one]
    simp only [app_assoc]
    rfl
  · have hge : j = r.mem.len := by simp at h; omega
    repeat (first | refine zz ?_ | refine zx fun _ => ?_)
    refine run_end hC (rs := []) rfl resN (fun _ h => h) ⟨rfl, Mem.le_trans hM1 hM2, ?_⟩
    rw [hge, List.take_of_length_le (by omega), msB, hx1]
end Go.Proofs.YtkjljcgbnikmkaaGreatDoor
namespace Go.Proofs.YtkjljcgbnikmkaaGreatDoor
open Go.Chi
set_option maxRecDepth 10000
def moreB (r : Rc) : ByteArray := if r.yes = true then nB r.auditor ++ (msB r.mem.xs ++ tsB r.tags.xs) else bz
set_option maxRecDepth 10000 in
set_option maxHeartbeats 8000000 in
theorem wmore_ok (M : Mem) (L : HL) (bw br : Nat) (s : ByteArray) (r : Rc) (hr : Cells M [] br 0 (rcC r)) (hm : MbOk M r.mem) (hml : r.yes = true → mbLim r.mem.xs) (ht : StOk M r.tags) (htl : r.yes = true → ∀ t ∈ r.tags.xs, t.size < 1099511627776)
    (hn : r.yes = true → 0 ≤ r.auditor ∧ r.auditor < 4611686018427387904) (hs : s.size < 1000000) :
    Tr Tryz.prog 174 [.pointer (some ⟨bw, 0, none⟩)] M (wrB bw br s :: L) (fun v M' L' => v = .tuple ⟨[]⟩ ∧ M.le M' ∧ L' = wrB bw br (s ++ moreB r) :: L) := by
  refine Tr.intro 28 Tryz.func174 rfl rfl Tryz.call174 rfl ?_
  intro C hC hro
  repeat (first | refine zz ?_ | refine zx fun _ => ?_ | refine runL_q (qt_ldM (k := 5) tok rfl hr rfl) rfl rfl rfl ?_)
  refine run_cond rfl (fun h => ?_) (fun h => ?_)
  · have hml := hml h
    have htl := htl h
    have hn := hn h
    have hz1 := nB_size (n := r.auditor) (by omega)
    have hz4 := mbB_sz hml
    have hx1 := hm.len
    have hlt6 := hm.2
    have hz2 := nB_size (n := (r.mem.xs.length : Int)) (by omega)
    have hz5 : r.mem.xs.length * 1099511627800 ≤ 1000000 * 1099511627800 := Nat.mul_le_mul_right _ (by omega)
    have hx2 := ht.len
    have hlt7 := ht.2
    have hz6 := tsB_sz htl
    have hz7 : r.tags.xs.length * 1099511627786 ≤ 1000000 * 1099511627786 := Nat.mul_le_mul_right _ (by omega)
    have hz8 : ((s ++ nB r.auditor) ++ msB r.mem.xs).size + (tsB r.tags.xs).size < 4611686018427387904 := by rw [app_size, app_size, msB, app_size]; omega
    repeat (first | refine zz ?_ | refine zx fun _ => ?_ | refine runL_op (st_callF rfl (fun _ => wauditor_ok M L bw br s r hr hn (by omega))) rfl rfl rfl ?_; rintro _ M1 _ ⟨rfl, hM1, rfl⟩)
    repeat (first | refine zz ?_ | refine zx fun _ => ?_ | refine runL_op (st_callF rfl (fun _ => wmembers_ok M1 L bw br _ r (hr.le hM1) (hm.le hM1) hml (by rw [app_size]; omega))) rfl rfl rfl ?_; rintro _ M2 _ ⟨rfl, hM2, rfl⟩)
    have hr2 := (hr.le hM1).le hM2
    have ht2 := (ht.le hM1).le hM2
    repeat (first | refine zz ?_ | refine zx fun _ => ?_ | refine dd ?_ | refine dz ?_ | refine dx fun _ => ?_ | refine prn_q rfl (qt_ldM (k := 8) tok rfl hr2 rfl) (by decide +kernel) rfl rfl rfl ?_ | refine prn_q rfl (qt_callF rfl (fun _ => orow_ok _ _ r.tags ht2 htl)) (by decide +kernel) rfl rfl rfl ?_ | refine prn_q rfl (qt_concat rfl rfl hz8) (by decide +kernel) rfl rfl rfl ?_)
    refine run_end hC (rs := []) rfl resN (fun _ h => h) ⟨rfl, Mem.le_trans hM1 hM2, ?_⟩
    rw [moreB, if_pos h]
    simp only [app_assoc]
    rfl
  · repeat (first | refine zz ?_ | refine zx fun _ => ?_)
    refine run_end hC (rs := []) rfl resN (fun _ h => h) ⟨rfl, Mem.le_refl _, ?_⟩
    rw [moreB, if_neg (by rw [h]; decide), show bz = (⟨#[]⟩ : ByteArray) from rfl, app_nil]
end Go.Proofs.YtkjljcgbnikmkaaGreatDoor
namespace Go.Proofs.YtkjljcgbnikmkaaGreatDoor
open Go.Chi
set_option maxRecDepth 10000
theorem mw_epoch : MethOk Tryz.prog 99 "chirograph/record.epoch" 172 := .of (by kernel_rfl)
theorem mw_txn : MethOk Tryz.prog 99 "chirograph/record.txn" 175 := .of (by kernel_rfl)
theorem mw_yes : MethOk Tryz.prog 99 "chirograph/record.yes" 176 := .of (by kernel_rfl)
theorem mw_auditor : MethOk Tryz.prog 99 "chirograph/record.auditor" 170 := .of (by kernel_rfl)
theorem mw_members : MethOk Tryz.prog 99 "chirograph/record.members" 173 := .of (by kernel_rfl)
theorem mw_body : MethOk Tryz.prog 99 "chirograph/record.body" 171 := .of (by kernel_rfl)
theorem mw_more : MethOk Tryz.prog 99 "chirograph/record.more" 174 := .of (by kernel_rfl)
theorem mr_epoch : MethOk Tryz.prog 141 "chirograph/record.epoch" 181 := .of (by kernel_rfl)
theorem mr_txn : MethOk Tryz.prog 141 "chirograph/record.txn" 184 := .of (by kernel_rfl)
theorem mr_yes : MethOk Tryz.prog 141 "chirograph/record.yes" 185 := .of (by kernel_rfl)
theorem mr_auditor : MethOk Tryz.prog 141 "chirograph/record.auditor" 179 := .of (by kernel_rfl)
theorem mr_members : MethOk Tryz.prog 141 "chirograph/record.members" 182 := .of (by kernel_rfl)
theorem mr_body : MethOk Tryz.prog 141 "chirograph/record.body" 180 := .of (by kernel_rfl)
theorem mr_more : MethOk Tryz.prog 141 "chirograph/record.more" 183 := .of (by kernel_rfl)
end Go.Proofs.YtkjljcgbnikmkaaGreatDoor
namespace Go.Proofs.YtkjljcgbnikmkaaGreatDoor
open Go.Chi
set_option maxRecDepth 10000
def wroteB (r : Rc) (nm : String) : ByteArray :=
  if nm = "chirograph/record.epoch" then nB r.epoch else
  if nm = "chirograph/record.txn" then txB r.txn else
  if nm = "chirograph/record.yes" then yB r.yes else
  if nm = "chirograph/record.auditor" then nB r.auditor else
  if nm = "chirograph/record.members" then msB r.mem.xs else
  if nm = "chirograph/record.body" then textB r.body else moreB r
def wroteL (r : Rc) : List String → ByteArray
  | [] => bz
  | nm :: l => wroteB r nm ++ wroteL r l
theorem wroteL_snoc (r : Rc) (l : List String) (nm : String) : wroteL r (l ++ [nm]) = wroteL r l ++ wroteB r nm := by
  induction l with
  | nil => show wroteB r nm ++ bz = bz ++ _; rw [show bz = (⟨#[]⟩ : ByteArray) from rfl, app_nil, nil_app]
  | cons x l ih => show wroteB r x ++ wroteL r (l ++ [nm]) = (wroteB r x ++ wroteL r l) ++ _; rw [ih, app_assoc]
theorem w_epoch (r : Rc) : wroteB r "chirograph/record.epoch" = nB r.epoch := by rw [wroteB, if_pos rfl]
theorem w_txn (r : Rc) : wroteB r "chirograph/record.txn" = txB r.txn := by rw [wroteB, if_neg (by decide), if_pos rfl]
theorem w_yes (r : Rc) : wroteB r "chirograph/record.yes" = yB r.yes := by rw [wroteB, if_neg (by decide), if_neg (by decide), if_pos rfl]
theorem w_auditor (r : Rc) : wroteB r "chirograph/record.auditor" = nB r.auditor := by rw [wroteB, if_neg (by decide), if_neg (by decide), if_neg (by decide), if_pos rfl]
theorem w_members (r : Rc) : wroteB r "chirograph/record.members" = msB r.mem.xs := by rw [wroteB, if_neg (by decide), if_neg (by decide), if_neg (by decide), if_neg (by decide), if_pos rfl]
theorem w_body (r : Rc) : wroteB r "chirograph/record.body" = textB r.body := by rw [wroteB, if_neg (by decide), if_neg (by decide), if_neg (by decide), if_neg (by decide), if_neg (by decide), if_pos rfl]
theorem w_more (r : Rc) : wroteB r "chirograph/record.more" = moreB r := by rw [wroteB, if_neg (by decide), if_neg (by decide), if_neg (by decide), if_neg (by decide), if_neg (by decide), if_neg (by decide)]
theorem meth1 : methL 1 = ["chirograph/record.epoch"] := rfl
theorem meth2 : methL 2 = ["chirograph/record.txn", "chirograph/record.yes", "chirograph/record.auditor", "chirograph/record.members", "chirograph/record.body"] := rfl
theorem meth3 : methL 3 = ["chirograph/record.txn", "chirograph/record.yes", "chirograph/record.more"] := rfl
theorem meth4 : methL 4 = ["chirograph/record.txn", "chirograph/record.yes"] := rfl
theorem app_bz (x : ByteArray) : x ++ bz = x := app_nil x
theorem wrote_all {r : Rc} (h : RecP r.re) : wroteL r (methL r.kind) = bodyB r.re := by
  have hk := h.kind
  have hk : r.kind = 1 ∨ r.kind = 2 ∨ r.kind = 3 ∨ r.kind = 4 := by have h1 : r.re.kind = r.kind := rfl; omega
  have e1 : r.re.kind = r.kind := rfl
  rcases hk with k | k | k | k
  · rw [k, meth1, bodyB, if_pos (e1.trans k)]
    simp only [wroteL, w_epoch, app_bz]
    rfl
  · rw [k, meth2, bodyB, if_neg (by rw [e1, k]; decide), if_pos (e1.trans k)]
    simp only [wroteL, w_txn, w_yes, w_auditor, w_members, w_body, app_bz]
    rfl
  · rw [k, meth3, bodyB, if_neg (by rw [e1, k]; decide), if_neg (by rw [e1, k]; decide), if_pos (e1.trans k)]
    simp only [wroteL, w_txn, w_yes, w_more, app_bz]
    rfl
  · rw [k, meth4, bodyB, if_neg (by rw [e1, k]; decide), if_neg (by rw [e1, k]; decide), if_neg (by rw [e1, k]; decide), if_pos (e1.trans k)]
    simp only [wroteL, w_txn, w_yes, app_bz]
    rfl
structure RcLim (r : Rc) : Prop where
  dig : ∀ m ∈ r.mem.xs, m.digest.size < 1099511627776
  tag : ∀ t ∈ r.tags.xs, t.size < 1099511627776
  body : r.body.size < 1099511627776
theorem recP_vote {r : Rc} (h : RecP r.re) (hk : r.kind = 2) : mayTx r.txn = true ∧ orgW r.auditor = true ∧ mayMb r.txn r.mem.xs = true := by
  generalize hr : r.re = x at h
  have e := congrArg Re.kind hr
  have e2 := congrArg Re.txn hr
  have e3 := congrArg Re.auditor hr
  have e4 := congrArg Re.mem hr
  cases h with
  | vote t y a m b h1 h2 h3 h4 => exact ⟨by rw [show r.txn = t from e2]; exact h1, by rw [show r.auditor = a from e3]; exact h2, by rw [show r.txn = t from e2, show r.mem.xs = m from e4]; exact h3⟩
  | epoch e' h1 h2 => exact absurd (e.symm.trans hk) (by simp)
  | commit t a m g h1 h2 h3 h4 h5 => exact absurd (e.symm.trans hk) (by simp)
  | abort t h1 => exact absurd (e.symm.trans hk) (by simp)
  | learn t y h1 => exact absurd (e.symm.trans hk) (by simp)
theorem recP_commit {r : Rc} (h : RecP r.re) (hk : r.kind = 3) (hy : r.yes = true) : orgW r.auditor = true ∧ mayMb r.txn r.mem.xs = true := by
  generalize hr : r.re = x at h
  have e := congrArg Re.kind hr
  have e2 := congrArg Re.txn hr
  have e3 := congrArg Re.auditor hr
  have e4 := congrArg Re.mem hr
  have e5 := congrArg Re.yes hr
  cases h with
  | commit t a m g h1 h2 h3 h4 h5 => exact ⟨by rw [show r.auditor = a from e3]; exact h2, by rw [show r.txn = t from e2, show r.mem.xs = m from e4]; exact h3⟩
  | abort t h1 => exact absurd (e5.symm.trans hy) (by simp)
  | epoch e' h1 h2 => exact absurd (e.symm.trans hk) (by simp)
  | vote t y a m b h1 h2 h3 h4 => exact absurd (e.symm.trans hk) (by simp)
  | learn t y h1 => exact absurd (e.symm.trans hk) (by simp)
theorem recP_txn {r : Rc} (h : RecP r.re) (hk : r.kind ≠ 1) : mayTx r.txn = true := by
  generalize hr : r.re = x at h
  have e := congrArg Re.kind hr
  have e2 := congrArg Re.txn hr
  cases h with
  | epoch e' h1 h2 => exact absurd e hk
  | vote t y a m b h1 h2 h3 h4 => rw [show r.txn = t from e2]; exact h1
  | commit t a m g h1 h2 h3 h4 h5 => rw [show r.txn = t from e2]; exact h1
  | abort t h1 => rw [show r.txn = t from e2]; exact h1
  | learn t y h1 => rw [show r.txn = t from e2]; exact h1
theorem recP_epoch {r : Rc} (h : RecP r.re) (hk : r.kind = 1) : 1 ≤ r.epoch ∧ r.epoch ≤ 255 := by
  generalize hr : r.re = x at h
  have e := congrArg Re.kind hr
  have e2 := congrArg Re.epoch hr
  cases h with
  | epoch e' h1 h2 => rw [show r.epoch = e' from e2]; exact ⟨h1, h2⟩
  | vote t y a m b h1 h2 h3 h4 => exact absurd (e.symm.trans hk) (by simp)
  | commit t a m g h1 h2 h3 h4 h5 => exact absurd (e.symm.trans hk) (by simp)
  | abort t h1 => exact absurd (e.symm.trans hk) (by simp)
  | learn t y h1 => exact absurd (e.symm.trans hk) (by simp)
theorem wmeth_ok {r : Rc} (h : RecP r.re) (hl : RcLim r) {nm : String} (hn : nm ∈ methL r.kind) : ∃ f, MethOk Tryz.prog 99 nm f ∧ ∀ (M : Mem) (L : HL) (bw br : Nat) (s : ByteArray), Cells M [] br 0 (rcC r) → MbOk M r.mem → StOk M r.tags → s.size < 1000000 →
    Tr Tryz.prog f [.pointer (some ⟨bw, 0, none⟩)] M (wrB bw br s :: L) (fun v M' L' => v = .tuple ⟨[]⟩ ∧ M.le M' ∧ L' = wrB bw br (s ++ wroteB r nm) :: L) := by
  have hk := h.kind
  have hk : r.kind = 1 ∨ r.kind = 2 ∨ r.kind = 3 ∨ r.kind = 4 := by have h1 : r.re.kind = r.kind := rfl; omega
  have orgR : ∀ {a : Int}, orgW a = true → 0 ≤ a ∧ a < 4611686018427387904 := fun ha => by simp [orgW] at ha; omega
  have hml : mayMb r.txn r.mem.xs = true → mbLim r.mem.xs := fun hm m hmm => ⟨(mayMb_r hm).2 m hmm, hl.dig m hmm⟩
  have htxn : r.kind ≠ 1 → ∃ f, MethOk Tryz.prog 99 "chirograph/record.txn" f ∧ ∀ (M : Mem) (L : HL) (bw br : Nat) (s : ByteArray), Cells M [] br 0 (rcC r) → MbOk M r.mem → StOk M r.tags → s.size < 1000000 →
      Tr Tryz.prog f [.pointer (some ⟨bw, 0, none⟩)] M (wrB bw br s :: L) (fun v M' L' => v = .tuple ⟨[]⟩ ∧ M.le M' ∧ L' = wrB bw br (s ++ wroteB r "chirograph/record.txn") :: L) := fun hk1 =>
    ⟨_, mw_txn, fun M L bw br s hr _ _ hs => by rw [w_txn]; exact wtxn_ok M L bw br s r hr (recP_txn h hk1) (by omega)⟩
  have hyes : ∃ f, MethOk Tryz.prog 99 "chirograph/record.yes" f ∧ ∀ (M : Mem) (L : HL) (bw br : Nat) (s : ByteArray), Cells M [] br 0 (rcC r) → MbOk M r.mem → StOk M r.tags → s.size < 1000000 →
      Tr Tryz.prog f [.pointer (some ⟨bw, 0, none⟩)] M (wrB bw br s :: L) (fun v M' L' => v = .tuple ⟨[]⟩ ∧ M.le M' ∧ L' = wrB bw br (s ++ wroteB r "chirograph/record.yes") :: L) :=
    ⟨_, mw_yes, fun M L bw br s hr _ _ hs => by rw [w_yes]; exact wyes_ok M L bw br s r hr (by omega)⟩
  rcases hk with k | k | k | k
  · rw [k, meth1] at hn
    simp only [List.mem_cons, List.not_mem_nil, or_false] at hn
    subst hn
    have := recP_epoch h k
    exact ⟨_, mw_epoch, fun M L bw br s hr _ _ hs => by rw [w_epoch]; exact wepoch_ok M L bw br s r hr (by omega) (by omega)⟩
  · rw [k, meth2] at hn
    obtain ⟨h1, h2, h3⟩ := recP_vote h k
    simp only [List.mem_cons, List.not_mem_nil, or_false] at hn
    rcases hn with rfl | rfl | rfl | rfl | rfl
    · exact htxn (by omega)
    · exact hyes
    · exact ⟨_, mw_auditor, fun M L bw br s hr _ _ hs => by rw [w_auditor]; exact wauditor_ok M L bw br s r hr (orgR h2) (by omega)⟩
    · exact ⟨_, mw_members, fun M L bw br s hr hm _ hs => by rw [w_members]; exact wmembers_ok M L bw br s r hr hm (hml h3) (by omega)⟩
    · exact ⟨_, mw_body, fun M L bw br s hr _ _ hs => by rw [w_body]; exact wbody_ok M L bw br s r hr hl.body (by omega)⟩
  · rw [k, meth3] at hn
    simp only [List.mem_cons, List.not_mem_nil, or_false] at hn
    rcases hn with rfl | rfl | rfl
    · exact htxn (by omega)
    · exact hyes
    · exact ⟨_, mw_more, fun M L bw br s hr hm ht hs => by rw [w_more]; exact wmore_ok M L bw br s r hr hm (fun hy => hml (recP_commit h k hy).2) ht (fun _ => hl.tag) (fun hy => orgR (recP_commit h k hy).1) hs⟩
  · rw [k, meth4] at hn
    simp only [List.mem_cons, List.not_mem_nil, or_false] at hn
    rcases hn with rfl | rfl
    · exact htxn (by omega)
    · exact hyes
theorem wroteL_take (r : Rc) (l : List String) (j : Nat) : (wroteL r (l.take j)).size ≤ (wroteL r l).size := by
  induction l generalizing j with
  | nil => simp
  | cons x l ih =>
    cases j with
    | zero => exact Nat.zero_le _
    | succ j =>
      have := ih j
      rw [List.take_succ_cons, wroteL, wroteL, app_size, app_size]
      omega
end Go.Proofs.YtkjljcgbnikmkaaGreatDoor
namespace Go.Proofs.YtkjljcgbnikmkaaGreatDoor
open Go.Chi
set_option maxRecDepth 10000
def encE (r : Rc) : ByteArray × Int := if recE r ≠ 0 then (⟨#[]⟩, recE r) else if 8192 < (recB r.re).size then (⟨#[]⟩, 5) else (recB r.re, 0)
theorem recE_re {M : Mem} {r : Rc} (hr : RcOk M r) : recE r = 0 ↔ RecP r.re := recE_iff hr.mem.len hr.tags.len
theorem RcOk.le {M M' : Mem} {r : Rc} (hm : M.le M') (h : RcOk M r) : RcOk M' r := ⟨h.mem.le hm, h.tags.le hm, h.dig, h.tag, h.body⟩
theorem methL_len (k : Int) : (methL k).length ≤ 5 := by
  unfold methL
  split
  · decide
  split
  · decide
  split
  · decide
  split <;> decide
set_option maxRecDepth 10000 in
set_option maxHeartbeats 16000000 in
theorem encode_ok (M : Mem) (L : HL) (r : Rc) (hr : RcOk M r) (hl : RcLim r) (hsz : recE r = 0 → (recB r.re).size < 1000000) : TrQ Tryz.prog 34 [.agg ⟨rcC r⟩] M L (.tuple ⟨[.string (encE r).1, .int .i64 (encE r).2]⟩) := by
  refine Tr.intro 42 Tryz.func34 rfl rfl Tryz.call34 rfl ?_
  intro C hC hro
  repeat (first | refine zz ?_ | refine zx fun _ => ?_ | refine runL_q (qt_callF rfl (fun _ => recCheck_ok _ _ r hr)) rfl rfl rfl ?_)
  refine run_cond rfl (fun h => ?_) (fun h => ?_)
  · have h0 : recE r ≠ 0 := by simpa using h
    repeat (first | refine zz ?_ | refine zx fun _ => ?_)
    exact run_ret hC (rs := [.tmp 2, .tmp 3]) rfl (resT rfl (resT rfl resN)) (fun _ h => h.drop) ⟨by rw [encE, if_pos h0]; rfl, rfl, rfl⟩
  have h0 : recE r = 0 := by simpa using h
  have hp := (recE_re hr).1 h0
  have hsz := hsz h0
  have hrs := recB_size r.re
  refine run_frz 0 rfl ?_
  intro M0 hM0 hb0
  have hc0 := Cells.ofBlk hb0
  refine run_skip ?_
  repeat (first | refine zz ?_ | refine zx fun _ => ?_ | refine runL_q (qt_ldM (k := 0) tok rfl hc0 rfl) rfl rfl rfl ?_ | refine runL_q (qt_bytesStr tok [r.kind] rfl rfl rfl rfl (cellsAll List.mem_cons_self) rfl) rfl rfl rfl ?_ | refine runL_q (qt_makeIfaceC tok rfl rfl rfl) rfl rfl rfl ?_ | refine runL_op (st_callF rfl (fun _ => of_ok _ _ _ _ _)) rfl rfl rfl ?_; rintro _ M1 _ ⟨hM1, rfl, a, c, rfl, hsl⟩)
  rename_i br bk bw
  have hc1 := hc0.le hM1
  have hm1 := (hr.mem.le hM0).le hM1
  have ht1 := (hr.tags.le hM0).le hM1
  refine run_mem (M' := M1) (L' := wrB bw br (bytesI [r.kind]) :: L) (fun _ h => (h.perm (List.Perm.swap _ _ _)).drop) ?_
  refine run_loopN (fun j σ1 M2 L1 => j ≤ (methL r.kind).length ∧ M1.le M2 ∧ L1 = wrB bw br (bytesI [r.kind] ++ wroteL r ((methL r.kind).take j)) :: L ∧ σ1 = [(25, .int .i64 (j : Int)), (24, .int .i64 ((methL r.kind).length : Int)), (23, .slice a (methL r.kind).length c), (5, .pointer (some ⟨bw, 0, none⟩))]) (methL r.kind).length [(25, .int .i64 ((0 : Nat) : Int)), (24, .int .i64 ((methL r.kind).length : Int)), (23, .slice a (methL r.kind).length c), (5, .pointer (some ⟨bw, 0, none⟩))] ?_ ⟨Nat.zero_le _, Mem.le_refl _, by rw [List.take_zero, wroteL, app_bz], rfl⟩ (fun j _ _ _ h => h.1) ?_
  · exact ⟨rfl, rfl, rfl, rfl, trivial⟩
  rintro j _ M2 _ ⟨hj, hM2, rfl, rfl⟩ hnext
  have hwl := wrote_all hp
  have hzj : (bytesI [r.kind] ++ wroteL r ((methL r.kind).take j)).size < 1000000 := by
    have := wroteL_take r (methL r.kind) j
    rw [hwl] at this
    rw [app_size, bytesI_one]
    omega
  repeat (first | refine zz ?_ | refine zx fun _ => ?_)
  refine run_cond rfl (fun h => ?_) (fun h => ?_)
  · have hlt : j < (methL r.kind).length := by simpa using h
    have hl5 := methL_len r.kind
    obtain ⟨b, off, cl, rfl, hcl, _, hcells⟩ := (hsl.le hM2).at_ hlt
    obtain ⟨nm, hnm, rfl⟩ : ∃ nm, (methL r.kind)[j]? = some nm ∧ [mv 99 (.pointer (some ⟨bw, 0, none⟩)) nm] = cl := by simpa using hcl
    obtain ⟨f, hf, htr⟩ := wmeth_ok hp hl (List.mem_of_getElem? hnm)
    repeat (first | refine zz ?_ | refine zx fun _ => ?_ | refine runL_q (qt_indexN tok rfl rfl rfl rfl (fun _ => by omega)) rfl rfl rfl ?_ | refine runL_g rfl rfl (qt_indexN tok rfl rfl rfl rfl (fun _ => by omega)) rfl rfl rfl rfl rfl ?_ | refine runL_q (qt_ldM tok rfl hcells rfl) rfl rfl rfl ?_ | refine runL_g rfl rfl (qt_ldM tok rfl hcells rfl) rfl rfl rfl rfl rfl ?_ | refine runL_q (qt_ldM0 tok rfl hcells rfl) rfl rfl rfl ?_ | refine runL_g rfl rfl (qt_ldM0 tok rfl hcells rfl) rfl rfl rfl rfl rfl ?_ | refine runL_op (st_callM rfl rfl hf (fun _ => htr M2 L bw br _ (hc1.le hM2) (hm1.le hM2) (ht1.le hM2) hzj)) rfl rfl rfl ?_; rintro _ M3 _ ⟨rfl, hM3, rfl⟩)
    refine run_sub' (hnext _ _ _ ⟨hlt, Mem.le_trans hM2 hM3, ?_, rfl⟩) ⟨lk_succ rfl (by omega), rfl, rfl, rfl, trivial⟩
    rw [take_snoc hnm, wroteL_snoc, app_assoc]
  · have hge : j = (methL r.kind).length := by simp at h; omega
    subst hge
    rw [List.take_of_length_le (Nat.le_refl _), hwl]
    have hrB : bytesI [r.kind] ++ bodyB r.re = recB r.re := rfl
    rw [hrB]
    have hle : M.le M2 := Mem.le_trans hM0 (Mem.le_trans hM1 hM2)
    repeat (first | refine zz ?_ | refine zx fun _ => ?_)
    refine run_cond rfl (fun h => ?_) (fun h => ?_)
    · have hgt : 8192 < (recB r.re).size := by simp at h; omega
      repeat (first | refine zz ?_ | refine zx fun _ => ?_)
      exact run_ret hC (rs := [.tmp 2, .tmp 3]) rfl (resT rfl (resT rfl resN)) (fun _ h => h.drop.of_le hle) ⟨by rw [encE, if_neg (by simp [h0]), if_pos hgt]; rfl, rfl, rfl⟩
    · have hgt : ¬ 8192 < (recB r.re).size := by simp at h; omega
      repeat (first | refine zz ?_ | refine zx fun _ => ?_)
      exact run_ret hC (rs := [.tmp 2, .tmp 3]) rfl (resT rfl (resT rfl resN)) (fun _ h => h.drop.of_le hle) ⟨by rw [encE, if_neg (by simp [h0]), if_neg hgt]; rfl, rfl, rfl⟩
end Go.Proofs.YtkjljcgbnikmkaaGreatDoor
namespace Go.Chi
section
variable {P : Program} {C : Cx} {n : Nat} {k : List Item} {ds : List Deferred} {σ : Env} {δ : Den} {M : Mem} {L : HL} {ops : Array Oper} {D X : List Nat}
theorem PRst.looked {a â : Act} {w : World} {listed : Array Bool} {fuel i : Nat} (hs : PRst P C n ops ds D X σ δ M L a â w listed fuel) (hr : i ∈ Region.ready .any ops listed) (hchk : chkE1 ops D i = true) : ∀ t ∈ looks ops i, a.tmps[t]? = â.tmps[t]? := by
  obtain ⟨_, _, hpr⟩ := (ready_iff hs.hsz).1 hr
  unfold chkE1 at hchk
  simp only [Bool.and_eq_true, Bool.not_eq_true'] at hchk
  obtain ⟨⟨⟨⟨_, _⟩, hne⟩, _⟩, hD⟩ := hchk
  have hne' := memN_false hne
  have hbef := befs_lst (listed := listed) (e := i) hs.down hpr
  intro t ht
  refine hs.agree t fun q hq hqn hqs => ?_
  have hb : memN (befs ops i) q = false := by
    cases hx : memN (befs ops i) q with
    | false => rfl
    | true =>
      rcases hbef q (memN_iff.1 hx) with rfl | hl
      · exact absurd hq hne'
      · exact absurd hl hqn
  have := List.all_eq_true.1 hD q hq
  simp only [hb, Bool.false_or, Bool.and_eq_true, Bool.not_eq_true'] at this
  have h2 := this.1.2
  rw [hqs] at h2
  exact memN_false h2 ht
theorem PRst.eff {a â : Act} {w w' : World} {listed : Array Bool} {fuel i : Nat} {dst : Option Nat} {σ' : Env} {v : Value} {M' : Mem} {L' : HL} (hs : PRst P C n ops ds D X σ δ M L a â w listed (fuel + 1)) (hr : i ∈ Region.ready .any ops listed) (hchk : chkE1 ops D i = true)
    (hsl : slotOf ops i = dst) (hsee : ∀ a, a.tmps.size = n → Sees σ δ a → Sees σ' δ (a.put dst v)) (hp' : Hp M' L' w')
    (hopen : ∀ q ∈ open_ ops D X i, ∀ a, Sees σ δ a → Pend P C.b.roundOf ops q a M L → Pend P C.b.roundOf ops q a M' L') : PRst P C n ops ds (i :: D) (i :: X) σ' δ M' L' (a.put dst v) (â.put dst v) w' (listed.setIfInBounds i true) fuel := by
  obtain ⟨hil, hin, hpr⟩ := (ready_iff hs.hsz).1 hr
  unfold chkE1 at hchk
  simp only [Bool.and_eq_true, Bool.not_eq_true'] at hchk
  obtain ⟨⟨⟨⟨hlt, hpl⟩, hne⟩, _⟩, hD⟩ := hchk
  have hne' := memN_false hne
  have hil' : i < listed.size := by rw [hs.hsz]; exact hil
  have hbef := befs_lst (listed := listed) (e := i) hs.down hpr
  have hop : ∀ q ∈ D, ¬ Lst listed q → memN (befs ops i) q = false ∧ (∀ d, dst = some d → d ∉ looks ops q ∧ slotOf ops q ≠ some d) := fun q hq hqn => by
    have hb : memN (befs ops i) q = false := by
      cases hx : memN (befs ops i) q with
      | false => rfl
      | true =>
        rcases hbef q (memN_iff.1 hx) with rfl | hl
        · exact absurd hq hne'
        · exact absurd hl hqn
    have := List.all_eq_true.1 hD q hq
    simp only [hb, Bool.false_or, Bool.and_eq_true, Bool.not_eq_true'] at this
    refine ⟨hb, fun d hd => ?_⟩
    have h3 := this.2
    rw [hsl, hd] at h3
    exact freeOf_spec h3
  have hq' : ∀ q, ¬ Lst (listed.setIfInBounds i true) q → q ≠ i ∧ ¬ Lst listed q := fun q hq => ⟨fun e => hq ((lst_set hil').2 (.inl e)), fun e => hq ((lst_set hil').2 (.inr e))⟩
  have hD' : ∀ q, q ∈ i :: D → ¬ Lst (listed.setIfInBounds i true) q → q ∈ D ∧ ¬ Lst listed q := fun q hq hqn => by
    obtain ⟨h1, h2⟩ := hq' q hqn
    exact ⟨(List.mem_cons.1 hq).resolve_left h1, h2⟩
  have hput : ∀ (x : Act) t, x.tmps.size = n → (∀ d, dst = some d → t ≠ d) → (x.put dst v).tmps[t]? = x.tmps[t]? := fun x t hx ht => by
    cases dst with
    | none => rfl
    | some d =>
      show (x.tmps.setIfInBounds d v)[t]? = _
      rw [Array.getElem?_setIfInBounds_ne (fun e => ht d rfl e.symm)]
  exact {
    hsz := by simpa using hs.hsz
    cnt := cnt_set hs.hsz hil hin hs.cnt
    an := by rw [put_size]; exact hs.an
    hn := by rw [put_size]; exact hs.hn
    ad := by rw [put_defers]; exact hs.ad
    hd := by rw [put_defers]; exact hs.hd
    sees := hsee â hs.hn hs.sees
    hp := hp'
    down := fun j hj p hp => by
      rw [lst_set hil'] at hj ⊢
      rcases hj with rfl | hj
      · exact .inr (hpr p hp)
      · exact .inr (hs.down j hj p hp)
    sub := fun j hj => by
      rw [lst_set hil'] at hj
      rcases hj with rfl | hj
      · exact List.mem_cons_self
      · exact List.mem_cons_of_mem _ (hs.sub j hj)
    ex := fun j hj => by
      rw [lst_set hil']
      rcases List.mem_cons.1 hj with rfl | hj
      · exact .inl rfl
      · exact .inr (hs.ex j hj)
    pend := fun q hq hqn => by
      obtain ⟨h1, h2⟩ := hD' q hq hqn
      have hp := hopen q (List.mem_filter.2 ⟨h1, by
        have hx : memN X q = false := by
          cases hx : memN X q with
          | false => rfl
          | true => exact absurd (hs.ex q (memN_iff.1 hx)) h2
        rw [(hop q h1 h2).1, hx]; rfl⟩) â hs.sees (hs.pend q h1 h2)
      obtain ⟨o, d, ho', hdst, _⟩ := hs.pend q h1 h2
      have hse : slotOf ops q = some d := by rw [slot_of ho']; exact hdst
      refine Pend.congr (d := d) hse (fun t ht => ?_) ?_ hp
      · exact (hput â t hs.hn fun d' hd' x => ((hop q h1 h2).2 d' hd').1 (x ▸ ht)).symm
      · exact (hput â d hs.hn fun d' hd' x => ((hop q h1 h2).2 d' hd').2 (x ▸ hse)).symm
    agree := fun t ht => by
      cases hd : dst with
      | none =>
        exact hs.agree t fun q hq hqn => ht q (List.mem_cons_of_mem _ hq) (fun x => by rw [lst_set hil'] at x; exact x.elim (fun e => by subst e; exact hne' hq) hqn)
      | some d =>
        by_cases e : t = d
        · subst e
          show (a.tmps.setIfInBounds t v)[t]? = (â.tmps.setIfInBounds t v)[t]?
          have e1 := hs.an
          have e2 := hs.hn
          by_cases hb : t < n
          · rw [Array.getElem?_setIfInBounds_self_of_lt (by omega), Array.getElem?_setIfInBounds_self_of_lt (by omega)]
          · rw [Array.getElem?_eq_none (by simp; omega), Array.getElem?_eq_none (by simp; omega)]
        · have h1 := hput a t hs.an (fun d' hd' x => e (by rw [hd] at hd'; injection hd' with hd'; rw [x, hd']))
          have h2 := hput â t hs.hn (fun d' hd' x => e (by rw [hd] at hd'; injection hd' with hd'; rw [x, hd']))
          rw [hd] at h1 h2
          rw [h1, h2]
          exact hs.agree t fun q hq hqn => ht q (List.mem_cons_of_mem _ hq) (fun x => by rw [lst_set hil'] at x; exact x.elim (fun e => by subst e; exact hne' hq) hqn)
    wf := fun j hj hjn q hq hqn => hs.wf j (hD' j hj hjn).1 (hD' j hj hjn).2 q (hD' q hq hqn).1 (hD' q hq hqn).2
    uniq := fun j hj hjn q hq hqn => hs.uniq j (hD' j hj hjn).1 (hD' j hj hjn).2 q (hD' q hq hqn).1 (hD' q hq hqn).2 }
theorem pr_callE (e : Nat) {d : Nat} {ty : TypeId} {pos : String} {aft : Array Edge} {f : FuncId} {args : Array Operand} {tys : Array TypeId} {vs : List Value} {K : Ending → Mem → HL → Prop}
    (hchk : (acyc ops && chkC ops D [e] && chkE1 ops D e) = true) (ho : ops[e]? = some ⟨some d, .call ⟨.value (.func f), args, tys⟩, ty, pos, aft, none⟩)
    (ha : evs σ δ [] args.toList = some vs) (ht : TrE P f vs M L K) (hd : Nat.blt d n = true) (hn : lkd δ d = none) (hu : unNamed δ d = true)
    (h : ∀ v M' L', K (.returned v) M' L' → PendAll P C.b.roundOf ops σ δ M' L' (open_ ops D X e) ∧ PR P C n ops k ds (e :: D) (e :: X) ((d, v) :: σ) δ M' L')
    (hp : ∀ ch M' L', K (.panicked ch) M' L' → RunX P C n (.panicking ch) ds [] M' L') : PR P C n ops k ds D X σ δ M L := by
  simp only [Bool.and_eq_true] at hchk
  obtain ⟨⟨hac, hC⟩, hE⟩ := hchk
  have hE' := hE
  unfold chkE1 at hE'
  simp only [Bool.and_eq_true, Bool.not_eq_true'] at hE'
  have hlt0 := Nat.blt_eq.mp hE'.1.1.1.1
  have hpl : plainAt ops e = true := hE'.1.1.1.2
  have hne0 := memN_false hE'.1.1.2
  refine pump hac ?_ (fun a w h1 h2 h3 h4 hall => absurd (hall e hlt0) hne0)
  intro a â w listed fuel t i hs hr hi
  obtain ⟨hil, hin, hpr⟩ := (ready_iff hs.hsz).1 hr
  obtain rfl : i = e := by
    have := List.all_eq_true.1 hC i (List.mem_range.2 hil)
    simp only [Bool.or_eq_true, Bool.not_eq_true'] at this
    rcases this with (h1 | h1) | h1
    · exact absurd (memN_iff.1 h1) hi
    · exact List.mem_singleton.1 (memN_iff.1 h1)
    · have : (predsAt ops i).all (memN D) = true := List.all_eq_true.2 fun p hp => memN_iff.2 (hs.sub p (hpr p hp))
      rw [this] at h1; cases h1
  have hsl : slotOf ops i = some d := by rw [slot_of ho]
  have hag : ∀ t ∈ Oper.looksAt ops ⟨some d, .call ⟨.value (.func f), args, tys⟩, ty, pos, aft, none⟩, a.tmps[t]? = â.tmps[t]? := fun t ht => by
    refine hs.looked hr hE t ?_
    unfold looks; rw [ho]; exact ht
  have hg := stepGR_op (P := P) (b := C.b) (k := k) (cs := C.cs) (w := w) (rest := Region.linearise.go .any ops fuel t (listed.setIfInBounds i true) []) (a := a) ho (wanted_none rfl _)
  have hrun : ((⟨some d, .call ⟨.value (.func f), args, tys⟩, ty, pos, aft, none⟩ : Oper).semAt C.b.roundOf a.eval).run P w = .ok (.enter f ⟨vs⟩) w := by
    rw [sem_agree (ops := ops) (a' := â) rfl hag]
    rw [semAt_of (by intro c e; cases e)]
    have e1 : args.map â.eval = ⟨vs⟩ := by apply Array.ext'; simpa using evs_sound hs.sees (holds_nil â) ha
    simp only [execOp, resolve, e1, Act.eval, Deferred.ofValue, Sem.run_bind, Sem.run_pure, Result.andThen_ok, invoke]
    simpa using ht.1 w
  obtain ⟨en, w'', fr, ⟨M', L', hp', hK⟩, hne, hsteps, _, hl⟩ := ht.2 w hs.hp (C.b.atR a (.inRegion ops (i :: Region.linearise.go .any ops fuel t (listed.setIfInBounds i true) []) :: k) :: C.cs)
  have henter : step P (lone (C.b.atR a (.inRegion ops (i :: Region.linearise.go .any ops fuel t (listed.setIfInBounds i true) []) :: k)) C.cs w) =
      .next (lone (Frame.enter P f ⟨vs⟩ .normal) (C.b.atR a (.inRegion ops (i :: Region.linearise.go .any ops fuel t (listed.setIfInBounds i true) []) :: k) :: C.cs) w) :=
    step_lone_go (by rw [hg]; simp [stepG.apply, hrun, Frame.atR])
  cases en with
  | outgrown => exact absurd rfl hne
  | returned v =>
    have hstep := step_leave_returned (c := C.b.atR a (.inRegion ops (i :: Region.linearise.go .any ops fuel t (listed.setIfInBounds i true) []) :: k)) (cs := C.cs) hl
    rw [finish_op ho] at hstep
    obtain ⟨h5, h6⟩ := h v M' L' hK
    exact J.steps (.head henter (hsteps.trans (.one hstep))) (h6 _ (â.put (some d) v) w'' _ fuel t (hs.eff hr hE hsl (fun a hn' hse => hse.put (by rw [hn']; exact Nat.blt_eq.mp hd) hn hu v) hp' (fun q hq a hse _ => h5.mem q hq a hse)))
  | panicked ch =>
    have hstep := step_leave_panicked (c := C.b.atR a (.inRegion ops (i :: Region.linearise.go .any ops fuel t (listed.setIfInBounds i true) []) :: k)) (cs := C.cs) hl
    have hra : (C.b.atR a (.inRegion ops (i :: Region.linearise.go .any ops fuel t (listed.setIfInBounds i true) []) :: k)).raise ch = { C.b.atR a (.inRegion ops (i :: Region.linearise.go .any ops fuel t (listed.setIfInBounds i true) []) :: k) with mode := .panicking ch } := by simp [Frame.raise, Frame.atR]
    rw [hra] at hstep
    exact J.steps (.head henter (hsteps.trans (.one hstep))) (hp ch M' L' hK a w'' _ hs.an hs.ad ⟨fun t v e => by simp [lks] at e, fun t p v e => by simp [lkd] at e⟩ hp')
theorem prn_callE {i d : Nat} {ty : TypeId} {pos : String} {aft : Array Edge} {f : FuncId} {args : Array Operand} {tys : Array TypeId} {vs : List Value} {K : Ending → Mem → HL → Prop}
    (ho : ops[i]? = some ⟨some d, .call ⟨.value (.func f), args, tys⟩, ty, pos, aft, none⟩) (hchk : (acyc ops && chkC ops (dn i) [i] && chkE1 ops (dn i) i) = true)
    (ha : evs σ δ [] args.toList = some vs) (ht : TrE P f vs M L K) (hd : Nat.blt d n = true) (hn : lkd δ d = none) (hu : unNamed δ d = true)
    (hp : ∀ ch M' L', K (.panicked ch) M' L' → RunX P C n (.panicking ch) ds [] M' L')
    (h : ∀ v M' L', K (.returned v) M' L' → PendAll P C.b.roundOf ops σ δ M' L' (open_ ops (dn i) X i) ∧ PR P C n ops k ds (dn (i + 1)) (i :: X) ((d, v) :: σ) δ M' L') : PR P C n ops k ds (dn i) X σ δ M L := pr_callE i hchk ho ha ht hd hn hu h hp
end
end Go.Chi
namespace Go.Proofs.YtkjljcgbnikmkaaGreatDoor
open Go.Chi
set_option maxRecDepth 10000
structure Rd where
  kind : Int
  epoch : Int
  txn : Tx
  yes : Bool
  auditor : Int
  mv : Value
  tv : Value
  body : ByteArray
def rdC (q : Rd) (s : ByteArray) : List Value := [.int .u8 q.kind, .int .i64 q.epoch, .int .i64 q.txn.coord, .int .i64 q.txn.epoch, .int .i64 q.txn.seq, .bool q.yes, .int .i64 q.auditor, q.mv, q.tv, .string q.body, .string s]
abbrev rdB (bx : Nat) (q : Rd) (s : ByteArray) : Nat × Obj := (bx, .cells ⟨rdC q s⟩ 143 (0, 0))
def panR : List PanicEntry := [{ v := .iface 38 (.int .i64 7), recovered := false }]
def gotK {α : Type} (r : Option (α × ByteArray)) (enc : α → Value) (bx : Nat) (q : Rd) (s : ByteArray) (M : Mem) (L : HL) (en : Ending) (M' : Mem) (L' : HL) : Prop :=
  M' = M ∧ match r with | some x => en = .returned (enc x.1) ∧ L' = rdB bx q x.2 :: L | none => en = .panicked panR ∧ L' = rdB bx q s :: L
set_option maxRecDepth 10000 in
set_option maxHeartbeats 8000000 in
theorem rnum_ok (M : Mem) (L : HL) (bx : Nat) (q : Rd) (s : ByteArray) (most : Nat) (hm : most < 4611686018427387904) (_hs : s.size < 4611686018427387904) :
    TrE Tryz.prog 186 [.pointer (some ⟨bx, 0, none⟩), .int .i64 (most : Int)] M (rdB bx q s :: L) (gotK (pN most s) (Value.int .i64) bx q s M L) := by
  refine TrE.intro 37 Tryz.func186 rfl rfl Tryz.call186 rfl ?_
  intro C hC hro
  have e1 : IntKind.u64.wrap (most : Int) = (most : Int) := u64_nat (by omega)
  have hnp := numR_pos s
  repeat (first | refine zz ?_ | refine zx fun _ => ?_ | refine runL_q (qt_callF rfl (fun _ => readNum_ok _ _ s)) rfl rfl rfl ?_)
  refine run_cond rfl (fun h => ?_) (fun h => ?_)
  · have h1 : ¬ ((numR s).2.2 = 0 ∧ (numR s).1 ≤ (most : Int)) := by
      rw [e1] at h
      simp at h
      rintro ⟨h2, h3⟩
      rcases h with h | h
      · exact h h2
      · omega
    repeat (first | refine zz ?_ | refine zx fun _ => ?_ | refine runL_q (qt_makeIfaceC tok rfl rfl rfl) rfl rfl rfl ?_)
    refine runL_panic hro rfl ?_
    exact runX_pan hC (fun _ h => h) ⟨rfl, by rw [pN, if_neg h1]; exact ⟨rfl, rfl⟩⟩
  · have h1 : (numR s).2.2 = 0 ∧ (numR s).1 ≤ (most : Int) := by
      rw [e1] at h
      simpa using h
    obtain ⟨m, hm1, hm2, hm3⟩ := numR_len s h1.1
    repeat (first | refine zz ?_ | refine zx fun _ => ?_)
    refine runL_as 31 (.int .i64 (m : Int)) rfl (by rw [hm1]) ?_
    repeat (first | refine zz ?_ | refine zx fun _ => ?_ | refine runL_q (qt_strLo (n := m) tok rfl rfl rfl (fun _ => hm3)) rfl rfl rfl ?_)
    have e2 : IntKind.i64.wrap (numR s).1 = (numR s).1 := by
      obtain ⟨x, hx⟩ : ∃ x : Nat, (numR s).1 = x := ⟨(numR s).1.toNat, by omega⟩
      rw [hx, wrap64_nat (by omega)]
    refine run_retX hro ?_
    refine runX_ret hC (rs := [.tmp 4]) rfl (resT rfl resN) (fun _ h => h) ⟨rfl, ?_⟩
    rw [pN, if_pos h1, e2, hm1]
    exact ⟨rfl, rfl⟩
set_option maxRecDepth 10000 in
set_option maxHeartbeats 8000000 in
theorem rtext_ok (M : Mem) (L : HL) (bx : Nat) (q : Rd) (s : ByteArray) (hs : s.size < 4611686018427387904) :
    TrE Tryz.prog 187 [.pointer (some ⟨bx, 0, none⟩)] M (rdB bx q s :: L) (gotK (pT s) Value.string bx q s M L) := by
  refine TrE.intro 28 Tryz.func187 rfl rfl Tryz.call187 rfl ?_
  intro C hC hro
  repeat (first | refine zz ?_ | refine zx fun _ => ?_ | refine runL_q (qt_callF rfl (fun _ => readText_ok _ _ s 8192 hs (by decide))) rfl rfl rfl ?_)
  refine run_cond rfl (fun h => ?_) (fun h => ?_)
  · have h1 : ¬ (textR s 8192).2.2 = 0 := by simpa using h
    repeat (first | refine zz ?_ | refine zx fun _ => ?_ | refine runL_q (qt_makeIfaceC tok rfl rfl rfl) rfl rfl rfl ?_)
    refine runL_panic hro rfl ?_
    exact runX_pan hC (fun _ h => h) ⟨rfl, by rw [pT, if_neg h1]; exact ⟨rfl, rfl⟩⟩
  · have h1 : (textR s 8192).2.2 = 0 := by simpa using h
    obtain ⟨m, hm1, hm2, hm3⟩ := textR_len s 8192 h1
    repeat (first | refine zz ?_ | refine zx fun _ => ?_)
    refine runL_as 23 (.int .i64 (m : Int)) rfl (by rw [hm1]) ?_
    repeat (first | refine zz ?_ | refine zx fun _ => ?_ | refine runL_q (qt_strLo (n := m) tok rfl rfl rfl (fun _ => hm3)) rfl rfl rfl ?_)
    refine run_retX hro ?_
    refine runX_ret hC (rs := [.tmp 2]) rfl (resT rfl resN) (fun _ h => h) ⟨rfl, ?_⟩
    rw [pT, if_pos h1, hm1]
    exact ⟨rfl, rfl⟩
end Go.Proofs.YtkjljcgbnikmkaaGreatDoor
namespace Go.Proofs.YtkjljcgbnikmkaaGreatDoor
open Go.Chi
set_option maxRecDepth 10000
section
variable {C : Cx} {n : Nat} {ops : Array Oper} {k : List Item} {ds : List Deferred} {σ : Env} {δ : Den} {M : Mem} {L : HL} {bx : Nat} {q : Rd} {s : ByteArray} {d : Nat} {ty : TypeId} {pos : String} {aft : Array Edge} {l : List Oper} {args : Array Operand} {tys : Array TypeId}
theorem runL_rnum {most : Nat} (ha : evs σ δ [] args.toList = some [.pointer (some ⟨bx, 0, none⟩), .int .i64 (most : Int)]) (hm : most < 4611686018427387904) (hs : s.size < 4611686018427387904) (hd : Nat.blt d n = true) (hn : lkd δ d = none) (hu : unNamed δ d = true)
    (h0 : ∀ v s', pN most s = some (v, s') → RunL Tryz.prog C n ops l k ds ((d, .int .i64 v) :: σ) δ M (rdB bx q s' :: L)) (h1 : pN most s = none → RunX Tryz.prog C n (.panicking panR) ds σ M (rdB bx q s :: L)) :
    RunL Tryz.prog C n ops (⟨some d, .call ⟨.value (.func 186), args, tys⟩, ty, pos, aft, none⟩ :: l) k ds σ δ M (rdB bx q s :: L) := by
  refine runL_callE ha (rnum_ok M L bx q s most hm hs) hd hn hu ?_ ?_
  · rintro v _ _ ⟨rfl, hv⟩
    cases hp : pN most s with
    | none => rw [hp] at hv; cases hv.1
    | some x =>
      rw [hp] at hv
      obtain ⟨hv, rfl⟩ := hv
      rw [Ending.returned.injEq] at hv
      subst hv
      exact h0 x.1 x.2 hp
  · rintro v _ _ ⟨rfl, hv⟩
    cases hp : pN most s with
    | some x => rw [hp] at hv; cases hv.1
    | none =>
      rw [hp] at hv
      obtain ⟨hv, rfl⟩ := hv
      rw [Ending.panicked.injEq] at hv
      subst hv
      exact h1 hp
theorem runL_rtext (ha : evs σ δ [] args.toList = some [.pointer (some ⟨bx, 0, none⟩)]) (hs : s.size < 4611686018427387904) (hd : Nat.blt d n = true) (hn : lkd δ d = none) (hu : unNamed δ d = true)
    (h0 : ∀ v s', pT s = some (v, s') → RunL Tryz.prog C n ops l k ds ((d, .string v) :: σ) δ M (rdB bx q s' :: L)) (h1 : pT s = none → RunX Tryz.prog C n (.panicking panR) ds σ M (rdB bx q s :: L)) :
    RunL Tryz.prog C n ops (⟨some d, .call ⟨.value (.func 187), args, tys⟩, ty, pos, aft, none⟩ :: l) k ds σ δ M (rdB bx q s :: L) := by
  refine runL_callE ha (rtext_ok M L bx q s hs) hd hn hu ?_ ?_
  · rintro v _ _ ⟨rfl, hv⟩
    cases hp : pT s with
    | none => rw [hp] at hv; cases hv.1
    | some x =>
      rw [hp] at hv
      obtain ⟨hv, rfl⟩ := hv
      rw [Ending.returned.injEq] at hv
      subst hv
      exact h0 x.1 x.2 hp
  · rintro v _ _ ⟨rfl, hv⟩
    cases hp : pT s with
    | some x => rw [hp] at hv; cases hv.1
    | none =>
      rw [hp] at hv
      obtain ⟨hv, rfl⟩ := hv
      rw [Ending.panicked.injEq] at hv
      subst hv
      exact h1 hp
end
structure Rr (M : Mem) (q : Rd) (r : Re) : Prop where
  kind : q.kind = r.kind
  epoch : q.epoch = r.epoch
  txn : q.txn = r.txn
  yes : q.yes = r.yes
  auditor : q.auditor = r.auditor
  body : q.body = r.body
  mem : ∃ sm : SMb, q.mv = sm.v ∧ MbOk M sm ∧ sm.xs = r.mem
  tags : ∃ st : SStr, q.tv = st.v ∧ StOk M st ∧ st.xs = r.tags
  nilM : r.mem = [] → q.mv = .slice none 0 0
  nilT : r.tags = [] → q.tv = .slice none 0 0
theorem Rr.le {M M' : Mem} {q : Rd} {r : Re} (hm : M.le M') (h : Rr M q r) : Rr M' q r :=
  { h with mem := by obtain ⟨sm, h1, h2, h3⟩ := h.mem; exact ⟨sm, h1, h2.le hm, h3⟩, tags := by obtain ⟨sm, h1, h2, h3⟩ := h.tags; exact ⟨sm, h1, h2.le hm, h3⟩ }
def rmK (o : Option (Re × ByteArray)) (bx : Nat) (M : Mem) (L : HL) (en : Ending) (M' : Mem) (L' : HL) : Prop :=
  M.le M' ∧ match o with | some x => en = .returned (.tuple ⟨[]⟩) ∧ ∃ q, Rr M' q x.1 ∧ L' = rdB bx q x.2 :: L | none => en = .panicked panR ∧ L' = L
theorem rmK_none {bx : Nat} {M : Mem} {L : HL} : rmK none bx M L (.panicked panR) M L := ⟨Mem.le_refl _, rfl, rfl⟩
theorem rmK_some {bx : Nat} {M M' : Mem} {L : HL} {q : Rd} {r : Re} {s : ByteArray} (hm : M.le M') (h : Rr M' q r) : rmK (some (r, s)) bx M L (.returned (.tuple ⟨[]⟩)) M' (rdB bx q s :: L) := ⟨hm, rfl, q, h, rfl⟩
def stEpoch (r : Re) (s : ByteArray) : Option (Re × ByteArray) := (pN 255 s).bind fun x => some ({ r with epoch := x.1 }, x.2)
def stAuditor (r : Re) (s : ByteArray) : Option (Re × ByteArray) := (pN 7 s).bind fun x => some ({ r with auditor := x.1 }, x.2)
def stYes (r : Re) (s : ByteArray) : Option (Re × ByteArray) := (pN 1 s).bind fun x => some ({ r with yes := x.1 == 1 }, x.2)
def stBody (r : Re) (s : ByteArray) : Option (Re × ByteArray) := (pT s).bind fun x => some ({ r with body := x.1 }, x.2)
def stTxn (r : Re) (s : ByteArray) : Option (Re × ByteArray) := (pTx s).bind fun x => some ({ r with txn := x.1 }, x.2)
theorem pN_size {most : Nat} {s x : ByteArray} {v : Int} (h : pN most s = some (v, x)) : x.size ≤ s.size := by
  rw [(pN_back h).2.2, app_size]; omega
theorem pT_size {s x t : ByteArray} (h : pT s = some (t, x)) : x.size ≤ s.size := by
  rw [(pT_back h).2, app_size]; omega
set_option maxRecDepth 10000 in
set_option maxHeartbeats 8000000 in
theorem repoch_ok (M : Mem) (L : HL) (bx : Nat) (q : Rd) (r : Re) (s : ByteArray) (hs : s.size < 4611686018427387904) (hq : Rr M q r) :
    TrE Tryz.prog 181 [.pointer (some ⟨bx, 0, none⟩)] M (rdB bx q s :: L) (rmK (stEpoch r s) bx M L) := by
  refine TrE.intro 8 Tryz.func181 rfl rfl Tryz.call181 rfl ?_
  intro C hC hro
  repeat (first | refine zz ?_ | refine zx fun _ => ?_)
  refine runL_rnum (most := 255) rfl (by decide) hs rfl rfl rfl (fun v s' hp => ?_) (fun hp => ?_)
  · repeat (first | refine zz ?_ | refine zx fun _ => ?_)
    refine run_endX hro ?_
    refine runX_ret hC (rs := []) rfl (vs := []) trivial (fun _ h => h) ?_
    rw [stEpoch, hp]
    exact rmK_some (q := { q with epoch := v }) (Mem.le_refl _) { hq with epoch := rfl }
  · refine runX_pan hC (fun _ h => h.drop) ?_
    rw [stEpoch, hp]
    exact rmK_none
set_option maxRecDepth 10000 in
set_option maxHeartbeats 8000000 in
theorem rauditor_ok (M : Mem) (L : HL) (bx : Nat) (q : Rd) (r : Re) (s : ByteArray) (hs : s.size < 4611686018427387904) (hq : Rr M q r) :
    TrE Tryz.prog 179 [.pointer (some ⟨bx, 0, none⟩)] M (rdB bx q s :: L) (rmK (stAuditor r s) bx M L) := by
  refine TrE.intro 8 Tryz.func179 rfl rfl Tryz.call179 rfl ?_
  intro C hC hro
  repeat (first | refine zz ?_ | refine zx fun _ => ?_)
  refine runL_rnum (most := 7) rfl (by decide) hs rfl rfl rfl (fun v s' hp => ?_) (fun hp => ?_)
  · repeat (first | refine zz ?_ | refine zx fun _ => ?_)
    refine run_endX hro ?_
    refine runX_ret hC (rs := []) rfl (vs := []) trivial (fun _ h => h) ?_
    rw [stAuditor, hp]
    exact rmK_some (q := { q with auditor := v }) (Mem.le_refl _) { hq with auditor := rfl }
  · refine runX_pan hC (fun _ h => h.drop) ?_
    rw [stAuditor, hp]
    exact rmK_none
set_option maxRecDepth 10000 in
set_option maxHeartbeats 8000000 in
theorem ryes_ok (M : Mem) (L : HL) (bx : Nat) (q : Rd) (r : Re) (s : ByteArray) (hs : s.size < 4611686018427387904) (hq : Rr M q r) :
    TrE Tryz.prog 185 [.pointer (some ⟨bx, 0, none⟩)] M (rdB bx q s :: L) (rmK (stYes r s) bx M L) := by
  refine TrE.intro 9 Tryz.func185 rfl rfl Tryz.call185 rfl ?_
  intro C hC hro
  repeat (first | refine zz ?_ | refine zx fun _ => ?_)
  refine runL_rnum (most := 1) rfl (by decide) hs rfl rfl rfl (fun v s' hp => ?_) (fun hp => ?_)
  · repeat (first | refine zz ?_ | refine zx fun _ => ?_)
    refine run_endX hro ?_
    refine runX_ret hC (rs := []) rfl (vs := []) trivial (fun _ h => h) ?_
    rw [stYes, hp]
    exact rmK_some (q := { q with yes := v == 1 }) (Mem.le_refl _) { hq with yes := rfl }
  · refine runX_pan hC (fun _ h => h.drop) ?_
    rw [stYes, hp]
    exact rmK_none
set_option maxRecDepth 10000 in
set_option maxHeartbeats 8000000 in
theorem rbody_ok (M : Mem) (L : HL) (bx : Nat) (q : Rd) (r : Re) (s : ByteArray) (hs : s.size < 4611686018427387904) (hq : Rr M q r) :
    TrE Tryz.prog 180 [.pointer (some ⟨bx, 0, none⟩)] M (rdB bx q s :: L) (rmK (stBody r s) bx M L) := by
  refine TrE.intro 8 Tryz.func180 rfl rfl Tryz.call180 rfl ?_
  intro C hC hro
  repeat (first | refine zz ?_ | refine zx fun _ => ?_)
  refine runL_rtext rfl hs rfl rfl rfl (fun v s' hp => ?_) (fun hp => ?_)
  · repeat (first | refine zz ?_ | refine zx fun _ => ?_)
    refine run_endX hro ?_
    refine runX_ret hC (rs := []) rfl (vs := []) trivial (fun _ h => h) ?_
    rw [stBody, hp]
    exact rmK_some (q := { q with body := v }) (Mem.le_refl _) { hq with body := rfl }
  · refine runX_pan hC (fun _ h => h.drop) ?_
    rw [stBody, hp]
    exact rmK_none
set_option maxRecDepth 10000 in
set_option maxHeartbeats 8000000 in
theorem rtxn_ok (M : Mem) (L : HL) (bx : Nat) (q : Rd) (r : Re) (s : ByteArray) (hs : s.size < 4611686018427387904) (hq : Rr M q r) :
    TrE Tryz.prog 184 [.pointer (some ⟨bx, 0, none⟩)] M (rdB bx q s :: L) (rmK (stTxn r s) bx M L) := by
  refine TrE.intro 23 Tryz.func184 rfl rfl Tryz.call184 rfl ?_
  intro C hC hro
  repeat (first | refine zz ?_ | refine zx fun _ => ?_)
  refine runL_rnum (most := 7) rfl (by decide) hs rfl rfl rfl (fun v1 s1 hp1 => ?_) (fun hp => ?_)
  rotate_left
  · refine runX_pan hC (fun _ h => h.drop) ?_
    rw [stTxn, pTx, hp]
    exact rmK_none
  have hz1 := pN_size hp1
  repeat (first | refine zz ?_ | refine zx fun _ => ?_)
  refine runL_rnum (q := { q with txn := ⟨v1, q.txn.epoch, q.txn.seq⟩ }) (most := 255) rfl (by decide) (by omega) rfl rfl rfl (fun v2 s2 hp2 => ?_) (fun hp => ?_)
  rotate_left
  · refine runX_pan hC (fun _ h => h.drop) ?_
    rw [stTxn, pTx, hp1, Option.bind_some, hp]
    exact rmK_none
  have hz2 := pN_size hp2
  repeat (first | refine zz ?_ | refine zx fun _ => ?_)
  refine runL_rnum (q := { q with txn := ⟨v1, v2, q.txn.seq⟩ }) (most := 65535) rfl (by decide) (by omega) rfl rfl rfl (fun v3 s3 hp3 => ?_) (fun hp => ?_)
  rotate_left
  · refine runX_pan hC (fun _ h => h.drop) ?_
    rw [stTxn, pTx, hp1, Option.bind_some, hp2, Option.bind_some, hp]
    exact rmK_none
  repeat (first | refine zz ?_ | refine zx fun _ => ?_)
  refine run_endX hro ?_
  refine runX_ret hC (rs := []) rfl (vs := []) trivial (fun _ h => h) ?_
  rw [stTxn, pTx, hp1, Option.bind_some, hp2, Option.bind_some, hp3]
  exact rmK_some (q := { q with txn := ⟨v1, v2, v3⟩ }) (Mem.le_refl _) { hq with txn := rfl }
end Go.Proofs.YtkjljcgbnikmkaaGreatDoor
namespace Go.Proofs.YtkjljcgbnikmkaaGreatDoor
open Go.Chi
set_option maxRecDepth 10000
theorem rMbAll (xs : List Mb) : ∀ l ∈ xs.map mbC, l.length = 2 := by intro l hl; obtain ⟨p, _, rfl⟩ := List.mem_map.1 hl; rfl
theorem rStAll (xs : List ByteArray) : ∀ l ∈ xs.map stC, l.length = 1 := by intro l hl; obtain ⟨p, _, rfl⟩ := List.mem_map.1 hl; rfl
theorem rMbOne (r : Mb) : ∀ u ∈ mbC r, u.oneCell' = true := by intro u hu; simp [mbC] at hu; rcases hu with rfl | rfl <;> rfl
theorem rStOne (r : ByteArray) : ∀ u ∈ stC r, u.oneCell' = true := by intro u hu; simp [stC] at hu; subst hu; rfl
theorem rOsSl {e size n : Nat} {v : Value} {xs : List Value} {N : HL} (h : OS e size v n xs N) : ∃ a cap, v = .slice a n cap := by
  rcases h with ⟨rfl, rfl, _, _⟩ | ⟨b, cap, cs, rfl, _⟩
  · exact ⟨_, _, rfl⟩
  · exact ⟨_, _, rfl⟩
theorem rFlat {α : Type} (f : α → List Value) (l : List α) (x : α) : (l.map f).flatten ++ f x = ((l ++ [x]).map f).flatten := by simp
section
variable {C : Cx} {n : Nat} {ops : Array Oper} {k : List Item} {ds : List Deferred} {σ : Env} {δ : Den} {M : Mem} {L : HL} {bx : Nat} {q : Rd} {s : ByteArray} {i d : Nat} {ty : TypeId} {pos : String} {aft : Array Edge} {args : Array Operand} {tys : Array TypeId} {X : List Nat}
theorem prn_rtext (ho : ops[i]? = some ⟨some d, .call ⟨.value (.func 187), args, tys⟩, ty, pos, aft, none⟩) (hchk : (acyc ops && chkC ops (dn i) [i] && chkE1 ops (dn i) i) = true)
    (ha : evs σ δ [] args.toList = some [.pointer (some ⟨bx, 0, none⟩)]) (hs : s.size < 4611686018427387904) (hd : Nat.blt d n = true) (hn : lkd δ d = none) (hu : unNamed δ d = true)
    (h1 : pT s = none → RunX Tryz.prog C n (.panicking panR) ds [] M (rdB bx q s :: L))
    (h0 : ∀ v s', pT s = some (v, s') → PendAll Tryz.prog C.b.roundOf ops σ δ M (rdB bx q s' :: L) (open_ ops (dn i) X i) ∧ PR Tryz.prog C n ops k ds (dn (i + 1)) (i :: X) ((d, .string v) :: σ) δ M (rdB bx q s' :: L)) :
    PR Tryz.prog C n ops k ds (dn i) X σ δ M (rdB bx q s :: L) := by
  refine prn_callE ho hchk ha (rtext_ok M L bx q s hs) hd hn hu ?_ ?_
  · rintro v _ _ ⟨rfl, hv⟩
    cases hp : pT s with
    | some x => rw [hp] at hv; cases hv.1
    | none =>
      rw [hp] at hv
      obtain ⟨hv, rfl⟩ := hv
      rw [Ending.panicked.injEq] at hv
      subst hv
      exact h1 hp
  · rintro v _ _ ⟨rfl, hv⟩
    cases hp : pT s with
    | none => rw [hp] at hv; cases hv.1
    | some x =>
      rw [hp] at hv
      obtain ⟨hv, rfl⟩ := hv
      rw [Ending.returned.injEq] at hv
      subst hv
      exact h0 x.1 x.2 hp
end
def stMembers (r : Re) (s : ByteArray) : Option (Re × ByteArray) := (pMs s).bind fun x => some ({ r with mem := x.1 }, x.2)
set_option maxRecDepth 10000 in
set_option maxHeartbeats 16000000 in
theorem rmembers_ok (M : Mem) (L : HL) (bx : Nat) (q : Rd) (r : Re) (s : ByteArray) (hs : s.size < 4611686018427387904) (hq : Rr M q r) (h0 : r.mem = []) :
    TrE Tryz.prog 182 [.pointer (some ⟨bx, 0, none⟩)] M (rdB bx q s :: L) (rmK (stMembers r s) bx M L) := by
  have hnil := hq.nilM h0
  refine TrE.intro 25 Tryz.func182 rfl rfl Tryz.call182 rfl ?_
  intro C hC hro
  repeat (first | refine zz ?_ | refine zx fun _ => ?_)
  refine runL_rnum (most := 6) rfl (by decide) hs rfl rfl rfl (fun v s1 hp1 => ?_) (fun hp => ?_)
  rotate_left
  · refine runX_pan hC (fun _ h => h.drop) ?_
    rw [stMembers, pMs, hp]
    exact rmK_none
  have hz1 := pN_size hp1
  obtain ⟨hv0, hv6, _⟩ := pN_back hp1
  obtain ⟨cnt, rfl⟩ : ∃ c : Nat, v = c := ⟨v.toNat, by omega⟩
  have hst : stMembers r s = (pMb cnt s1).bind fun x => some ({ r with mem := x.1 }, x.2) := by
    rw [stMembers, pMs, hp1, Option.bind_some, Int.toNat_natCast]
  repeat (first | refine zz ?_ | refine zx fun _ => ?_)
  refine run_loopN (fun j σ1 M1 L1 => j ≤ cnt ∧ ∃ (xs : List Mb) (sj : ByteArray) (mvj : Value) (N : HL), xs.length = j ∧ (pMb cnt s1 = (pMb (cnt - j) sj).bind fun z => some (xs ++ z.1, z.2)) ∧ sj.size ≤ s.size ∧ (xs = [] → mvj = .slice none 0 0) ∧ OS 98 2 mvj j (xs.map mbC).flatten N ∧ M = M1 ∧ L1 = rdB bx { q with mv := mvj } sj :: (N ++ L) ∧ σ1 = [(5, .int .i64 (j : Int)), (4, .int .i64 (cnt : Int)), (0, .pointer (some ⟨bx, 0, none⟩))]) cnt [(5, .int .i64 ((0 : Nat) : Int)), (4, .int .i64 (cnt : Int)), (0, .pointer (some ⟨bx, 0, none⟩))] ?_ ⟨Nat.zero_le _, [], s1, .slice none 0 0, [], rfl, by rw [Nat.sub_zero]; cases pMb cnt s1 <;> rfl, hz1, fun _ => rfl, OS.nil _ _, rfl, by rw [← hnil]; rfl, rfl⟩ (fun j _ _ _ h => h.1) ?_
  · exact ⟨rfl, rfl, rfl, trivial⟩
  rintro j _ _ _ ⟨hj, xs, sj, mvj, N, hxl, hpj, hsj, hnj, hO, rfl, rfl, rfl⟩ hnext
  repeat (first | refine zz ?_ | refine zx fun _ => ?_)
  refine run_cond rfl (fun h => ?_) (fun h => ?_)
  · have hlt : j < cnt := by simpa using h
    have hc1 : cnt - j = (cnt - (j + 1)) + 1 := by omega
    rw [hc1, pMb] at hpj
    repeat (first | refine zz ?_ | refine zx fun _ => ?_)
    refine runL_rnum (most := 7) rfl (by decide) (by omega) rfl rfl rfl (fun v2 s2 hp2 => ?_) (fun hp => ?_)
    rotate_left
    · refine runX_pan hC (fun _ h => h.drop.dropAll) ?_
      rw [hst, hpj, hp]
      exact rmK_none
    have hz2 := pN_size hp2
    rw [hp2, Option.bind_some] at hpj
    repeat (first | refine zz ?_ | refine zx fun _ => ?_ | refine dd ?_ | refine dz ?_ | refine dx fun _ => ?_)
    refine prn_rtext rfl (by decide +kernel) rfl (by omega) rfl rfl rfl (fun hp => ?_) (fun t s3 hp3 => ?_)
    · refine runX_pan hC (fun _ h => h.drop.dropAll) ?_
      rw [hst, hpj, hp]
      exact rmK_none
    have hz3 := pT_size hp3
    rw [hp3, Option.bind_some] at hpj
    refine ⟨by (repeat (first | exact trivial | refine And.intro (pend_q rfl rfl rfl (qt_pev tok rfl)) ?_ | refine And.intro (pend_q rfl rfl rfl (ql tok rfl)) ?_)), ?_⟩
    repeat (first | refine zz ?_ | refine zx fun _ => ?_ | refine dd ?_ | refine dz ?_ | refine dx fun _ => ?_)
    rename_i bn
    refine prn_o1 rfl (st_append (n := j) (m := 1) (news := mbC ⟨v2, t⟩) tok rfl rfl rfl rfl rfl rfl rfl rfl (pm2 _ _ N _) hO (.inr ⟨bn, 0, 1, rfl, cellsAll List.mem_cons_self, rfl⟩) (rMbOne _) (by omega) (by omega)) (by decide +kernel) rfl rfl rfl ?_
    rintro mv' _ _ ⟨N', rfl, rfl, hO'⟩
    obtain ⟨aa, ca, rfl⟩ := rOsSl hO'
    refine ⟨by (repeat (first | exact trivial | refine And.intro (pend_q rfl rfl rfl (qt_pev tok rfl)) ?_ | refine And.intro (pend_q rfl rfl rfl (ql tok rfl)) ?_)), ?_⟩
    repeat (first | refine zz ?_ | refine zx fun _ => ?_ | refine dd ?_ | refine dz ?_ | refine dx fun _ => ?_)
    refine run_mem (fun _ h => (h.perm (pm2 _ _ N' _).symm).drop) (run_sub' (hnext _ _ _ ⟨hlt, xs ++ [⟨v2, t⟩], s3, _, N', by simp [hxl], ?_, by omega, by simp, by rw [← rFlat]; exact hO', rfl, rfl, rfl⟩) ⟨lk_succ rfl (by omega), rfl, rfl, trivial⟩)
    rw [hpj, Option.bind_assoc]
    simp
  · have hge : j = cnt := by simp at h; omega
    rw [hge, Nat.sub_self, pMb, Option.bind_some, List.append_nil] at hpj
    repeat (first | refine zz ?_ | refine zx fun _ => ?_)
    refine run_memE (fun M' L' => M.le M' ∧ ∃ sm : SMb, MbOk M' sm ∧ sm.xs = xs ∧ (xs = [] → sm.v = .slice none 0 0) ∧ L' = rdB bx { q with mv := sm.v } sj :: L) (fun w hw => ?_) ?_
    · obtain ⟨M', a', c', h1, h2, h3, h4⟩ := (hw.perm (pm1 _ N _)).freezeOS hO (by simpa using hxl) (rMbAll _)
      exact ⟨M', _, h2, h1, ⟨a', j, c', xs⟩, ⟨h4, by show j < _; omega⟩, rfl, fun hx => by rw [← hnj hx, h3]; rfl, by rw [h3]; rfl⟩
    · rintro M' _ ⟨hM', sm, hsm, rfl, hn', rfl⟩
      refine run_endX hro ?_
      refine runX_ret hC (rs := []) rfl (vs := []) trivial (fun _ h => h) ?_
      rw [hst, hpj, Option.bind_some]
      exact rmK_some hM' { hq.le hM' with mem := ⟨sm, rfl, hsm, rfl⟩, nilM := hn' }
end Go.Proofs.YtkjljcgbnikmkaaGreatDoor
namespace Go.Proofs.YtkjljcgbnikmkaaGreatDoor
open Go.Chi
set_option maxRecDepth 10000
def stMore (r : Re) (s : ByteArray) : Option (Re × ByteArray) :=
  if r.yes = true then (pAM s).bind fun x => (pTs x.1.2.length x.2).bind fun u => some ({ r with auditor := x.1.1, mem := x.1.2, tags := u.1 }, u.2) else some (r, s)
set_option maxRecDepth 10000 in
set_option maxHeartbeats 16000000 in
theorem rmore_ok (M : Mem) (L : HL) (bx : Nat) (q : Rd) (r : Re) (s : ByteArray) (hs : s.size < 4611686018427387904) (hq : Rr M q r) (h0 : r.mem = []) (h00 : r.tags = []) :
    TrE Tryz.prog 183 [.pointer (some ⟨bx, 0, none⟩)] M (rdB bx q s :: L) (rmK (stMore r s) bx M L) := by
  refine TrE.intro 34 Tryz.func183 rfl rfl Tryz.call183 rfl ?_
  intro C hC hro
  have hy := hq.yes
  repeat (first | refine zz ?_ | refine zx fun _ => ?_)
  refine run_cond rfl (fun h => ?_) (fun h => ?_)
  · have h1 : ¬ r.yes = true := by rw [← hy]; simpa using h
    repeat (first | refine zz ?_ | refine zx fun _ => ?_)
    refine run_retX hro ?_
    refine runX_ret hC (rs := []) rfl (vs := []) trivial (fun _ h => h) ?_
    rw [stMore, if_neg h1]
    exact rmK_some (Mem.le_refl _) hq
  have h1 : r.yes = true := by rw [← hy]; simpa using h
  repeat (first | refine zz ?_ | refine zx fun _ => ?_)
  refine runL_callE rfl (rauditor_ok M L bx q r s hs hq) rfl rfl rfl ?_ ?_
  rotate_left
  · rintro ch M1 L1 ⟨hM1, hv⟩
    cases hp : pN 7 s with
    | some x => rw [stAuditor, hp] at hv; cases hv.1
    | none =>
      rw [stAuditor, hp] at hv
      obtain ⟨hv, rfl⟩ := hv
      rw [Ending.panicked.injEq] at hv
      subst hv
      refine runX_pan hC (fun _ h => h) ?_
      rw [stMore, if_pos h1, pAM, hp]
      exact ⟨hM1, rfl, rfl⟩
  rintro v0 M1 L1 ⟨hM1, hv⟩
  cases hp1 : pN 7 s with
  | none => rw [stAuditor, hp1] at hv; cases hv.1
  | some x1 =>
  rw [stAuditor, hp1] at hv
  obtain ⟨hv, q1, hq1, rfl⟩ := hv
  rw [Ending.returned.injEq] at hv
  subst hv
  obtain ⟨a1, s1⟩ := x1
  have hz1 := pN_size hp1
  repeat (first | refine zz ?_ | refine zx fun _ => ?_)
  refine runL_callE rfl (rmembers_ok M1 L bx q1 { r with auditor := a1 } s1 (by omega) hq1 h0) rfl rfl rfl ?_ ?_
  rotate_left
  · rintro ch M2 L2 ⟨hM2, hv⟩
    cases hp : pMs s1 with
    | some x => rw [stMembers, hp] at hv; cases hv.1
    | none =>
      rw [stMembers, hp] at hv
      obtain ⟨hv, rfl⟩ := hv
      rw [Ending.panicked.injEq] at hv
      subst hv
      refine runX_pan hC (fun _ h => h) ?_
      rw [stMore, if_pos h1, pAM, hp1, Option.bind_some, hp]
      exact ⟨Mem.le_trans hM1 hM2, rfl, rfl⟩
  rintro v0 M2 L2 ⟨hM2, hv⟩
  cases hp2 : pMs s1 with
  | none => rw [stMembers, hp2] at hv; cases hv.1
  | some x2 =>
  rw [stMembers, hp2] at hv
  obtain ⟨hv, q2, hq2, rfl⟩ := hv
  rw [Ending.returned.injEq] at hv
  subst hv
  obtain ⟨l2, s2⟩ := x2
  have hz2 : s2.size ≤ s1.size := by rw [pMs_back hp2, app_size]; omega
  have hst : stMore r s = (pTs l2.length s2).bind fun u => some ({ r with auditor := a1, mem := l2, tags := u.1 }, u.2) := by
    rw [stMore, if_pos h1, pAM, hp1, Option.bind_some, hp2]
    rfl
  have hnil := hq2.nilT h00
  obtain ⟨sm, hmv, hsm, hxs⟩ := hq2.mem
  have hsl := hsm.len
  have hs6 := hsm.2
  simp only at hxs
  have hM02 := Mem.le_trans hM1 hM2
  obtain ⟨k2, e2, t2, y2, a2, mv2, tv2, b2⟩ := q2
  simp only at hmv hnil
  subst hmv hnil
  repeat (first | refine zz ?_ | refine zx fun _ => ?_)
  refine run_loopN (fun j σ1 M3 L1 => j ≤ sm.len ∧ ∃ (xs : List ByteArray) (sj : ByteArray) (tvj : Value) (N : HL), xs.length = j ∧ (pTs l2.length s2 = (pTs (sm.len - j) sj).bind fun z => some (xs ++ z.1, z.2)) ∧ sj.size ≤ s.size ∧ (xs = [] → tvj = .slice none 0 0) ∧ OS 9 1 tvj j (xs.map stC).flatten N ∧ M2 = M3 ∧ L1 = rdB bx ⟨k2, e2, t2, y2, a2, sm.v, tvj, b2⟩ sj :: (N ++ L) ∧ σ1 = [(18, .int .i64 (j : Int)), (17, .int .i64 (sm.len : Int)), (0, .pointer (some ⟨bx, 0, none⟩))]) sm.len [(18, .int .i64 ((0 : Nat) : Int)), (17, .int .i64 (sm.len : Int)), (0, .pointer (some ⟨bx, 0, none⟩))] ?_ ⟨Nat.zero_le _, [], s2, .slice none 0 0, [], rfl, by rw [Nat.sub_zero, ← hxs, hsl]; cases pTs sm.len s2 <;> rfl, by omega, fun _ => rfl, OS.nil _ _, rfl, rfl, rfl⟩ (fun j _ _ _ h => h.1) ?_
  · exact ⟨rfl, rfl, rfl, trivial⟩
  rintro j _ _ _ ⟨hj, xs, sj, tvj, N, hxl, hpj, hsj, hnj, hO, rfl, rfl, rfl⟩ hnext
  repeat (first | refine zz ?_ | refine zx fun _ => ?_)
  refine run_cond rfl (fun h => ?_) (fun h => ?_)
  · have hlt : j < sm.len := by simpa using h
    have hc1 : sm.len - j = (sm.len - (j + 1)) + 1 := by omega
    rw [hc1, pTs] at hpj
    repeat (first | refine zz ?_ | refine zx fun _ => ?_)
    repeat (first | refine zz ?_ | refine zx fun _ => ?_ | refine dd ?_ | refine dz ?_ | refine dx fun _ => ?_)
    refine prn_rtext rfl (by decide +kernel) rfl (by omega) rfl rfl rfl (fun hp => ?_) (fun t s3 hp3 => ?_)
    · refine runX_pan hC (fun _ h => h.drop.dropAll) ?_
      rw [hst, hpj, hp]
      exact ⟨hM02, rfl, rfl⟩
    have hz3 := pT_size hp3
    rw [hp3, Option.bind_some] at hpj
    refine ⟨by (repeat (first | exact trivial | refine And.intro (pend_q rfl rfl rfl (qt_pev tok rfl)) ?_ | refine And.intro (pend_q rfl rfl rfl (ql tok rfl)) ?_)), ?_⟩
    repeat (first | refine zz ?_ | refine zx fun _ => ?_ | refine dd ?_ | refine dz ?_ | refine dx fun _ => ?_)
    rename_i bn
    refine prn_o1 rfl (st_append (n := j) (m := 1) (news := stC t) tok rfl rfl rfl rfl rfl rfl rfl rfl (pm2 _ _ N _) hO (.inr ⟨bn, 0, 1, rfl, cellsAll List.mem_cons_self, rfl⟩) (rStOne _) (by omega) (by omega)) (by decide +kernel) rfl rfl rfl ?_
    rintro mv' _ _ ⟨N', rfl, rfl, hO'⟩
    obtain ⟨aa, ca, rfl⟩ := rOsSl hO'
    refine ⟨by (repeat (first | exact trivial | refine And.intro (pend_q rfl rfl rfl (qt_pev tok rfl)) ?_ | refine And.intro (pend_q rfl rfl rfl (ql tok rfl)) ?_)), ?_⟩
    repeat (first | refine zz ?_ | refine zx fun _ => ?_ | refine dd ?_ | refine dz ?_ | refine dx fun _ => ?_)
    refine run_mem (fun _ h => (h.perm (pm2 _ _ N' _).symm).drop) (run_sub' (hnext _ _ _ ⟨hlt, xs ++ [t], s3, _, N', by simp [hxl], ?_, by omega, by simp, by rw [← rFlat]; exact hO', rfl, rfl, rfl⟩) ⟨lk_succ rfl (by omega), rfl, rfl, trivial⟩)
    rw [hpj, Option.bind_assoc]
    simp
  · have hge : j = sm.len := by simp at h; omega
    rw [hge, Nat.sub_self, pTs, Option.bind_some, List.append_nil] at hpj
    repeat (first | refine zz ?_ | refine zx fun _ => ?_)
    refine run_memE (fun M' L' => M2.le M' ∧ ∃ st : SStr, StOk M' st ∧ st.xs = xs ∧ (xs = [] → st.v = .slice none 0 0) ∧ L' = rdB bx ⟨k2, e2, t2, y2, a2, sm.v, st.v, b2⟩ sj :: L) (fun w hw => ?_) ?_
    · obtain ⟨M', a', c', h1, h2, h3, h4⟩ := (hw.perm (pm1 _ N _)).freezeOS hO (by simpa using hxl) (rStAll _)
      exact ⟨M', _, h2, h1, ⟨a', j, c', xs⟩, ⟨h4, by show j < _; omega⟩, rfl, fun hx => by rw [← hnj hx, h3]; rfl, by rw [h3]; rfl⟩
    · rintro M' _ ⟨hM', st, hst', rfl, hn', rfl⟩
      refine run_endX hro ?_
      refine runX_ret hC (rs := []) rfl (vs := []) trivial (fun _ h => h) ?_
      rw [hst, hpj, Option.bind_some]
      have hq3 := hq2.le hM'
      exact rmK_some (Mem.le_trans hM02 hM') { hq3 with tags := ⟨st, rfl, hst', rfl⟩, nilT := hn' }
end Go.Proofs.YtkjljcgbnikmkaaGreatDoor
namespace Go.Proofs.YtkjljcgbnikmkaaGreatDoor
open Go.Chi
set_option maxRecDepth 10000
def mNames : List String := ["chirograph/record.epoch", "chirograph/record.txn", "chirograph/record.yes", "chirograph/record.auditor", "chirograph/record.members", "chirograph/record.body", "chirograph/record.more"]
theorem methL_sub {k : Int} {nm : String} (h : nm ∈ methL k) : nm ∈ mNames := by
  unfold methL at h
  unfold mNames
  repeat' split at h
  all_goals simp only [List.mem_cons, List.not_mem_nil, or_false] at h ⊢
  · exact .inl h
  · rcases h with h | h | h | h | h <;> simp [h]
  · rcases h with h | h | h <;> simp [h]
  · rcases h with h | h <;> simp [h]
def stepR (nm : String) (r : Re) (s : ByteArray) : Option (Re × ByteArray) :=
  if nm = "chirograph/record.epoch" then stEpoch r s else
  if nm = "chirograph/record.txn" then stTxn r s else
  if nm = "chirograph/record.yes" then stYes r s else
  if nm = "chirograph/record.auditor" then stAuditor r s else
  if nm = "chirograph/record.members" then stMembers r s else
  if nm = "chirograph/record.body" then stBody r s else stMore r s
theorem s_epoch : stepR "chirograph/record.epoch" = stEpoch := by funext r s; rw [stepR, if_pos rfl]
theorem s_txn : stepR "chirograph/record.txn" = stTxn := by funext r s; rw [stepR, if_neg (by decide), if_pos rfl]
theorem s_yes : stepR "chirograph/record.yes" = stYes := by funext r s; rw [stepR, if_neg (by decide), if_neg (by decide), if_pos rfl]
theorem s_auditor : stepR "chirograph/record.auditor" = stAuditor := by funext r s; rw [stepR, if_neg (by decide), if_neg (by decide), if_neg (by decide), if_pos rfl]
theorem s_members : stepR "chirograph/record.members" = stMembers := by funext r s; rw [stepR, if_neg (by decide), if_neg (by decide), if_neg (by decide), if_neg (by decide), if_pos rfl]
theorem s_body : stepR "chirograph/record.body" = stBody := by funext r s; rw [stepR, if_neg (by decide), if_neg (by decide), if_neg (by decide), if_neg (by decide), if_neg (by decide), if_pos rfl]
theorem s_more : stepR "chirograph/record.more" = stMore := by funext r s; rw [stepR, if_neg (by decide), if_neg (by decide), if_neg (by decide), if_neg (by decide), if_neg (by decide), if_neg (by decide)]
def listy (nm : String) : Prop := nm = "chirograph/record.members" ∨ nm = "chirograph/record.more"
theorem mNames_cases {q : String → Prop} (h1 : q "chirograph/record.epoch") (h2 : q "chirograph/record.txn") (h3 : q "chirograph/record.yes") (h4 : q "chirograph/record.auditor") (h5 : q "chirograph/record.members") (h6 : q "chirograph/record.body") (h7 : q "chirograph/record.more") {nm : String} (h : nm ∈ mNames) : q nm := by
  simp only [mNames, List.mem_cons, List.not_mem_nil, or_false] at h
  rcases h with rfl | rfl | rfl | rfl | rfl | rfl | rfl <;> assumption
theorem rmeth_ok {nm : String} (hn : nm ∈ mNames) : ∃ f, MethOk Tryz.prog 141 nm f ∧ ∀ (M : Mem) (L : HL) (bx : Nat) (q : Rd) (r : Re) (s : ByteArray), s.size < 4611686018427387904 → Rr M q r → (listy nm → r.mem = [] ∧ r.tags = []) →
    TrE Tryz.prog f [.pointer (some ⟨bx, 0, none⟩)] M (rdB bx q s :: L) (rmK (stepR nm r s) bx M L) := by
  refine mNames_cases (q := fun nm => ∃ f, MethOk Tryz.prog 141 nm f ∧ ∀ (M : Mem) (L : HL) (bx : Nat) (q : Rd) (r : Re) (s : ByteArray), s.size < 4611686018427387904 → Rr M q r → (listy nm → r.mem = [] ∧ r.tags = []) →
    TrE Tryz.prog f [.pointer (some ⟨bx, 0, none⟩)] M (rdB bx q s :: L) (rmK (stepR nm r s) bx M L)) ?_ ?_ ?_ ?_ ?_ ?_ ?_ hn
  · exact ⟨_, mr_epoch, fun M L bx q r s hs hq _ => by rw [s_epoch]; exact repoch_ok M L bx q r s hs hq⟩
  · exact ⟨_, mr_txn, fun M L bx q r s hs hq _ => by rw [s_txn]; exact rtxn_ok M L bx q r s hs hq⟩
  · exact ⟨_, mr_yes, fun M L bx q r s hs hq _ => by rw [s_yes]; exact ryes_ok M L bx q r s hs hq⟩
  · exact ⟨_, mr_auditor, fun M L bx q r s hs hq _ => by rw [s_auditor]; exact rauditor_ok M L bx q r s hs hq⟩
  · exact ⟨_, mr_members, fun M L bx q r s hs hq h => by rw [s_members]; exact rmembers_ok M L bx q r s hs hq (h (.inl rfl)).1⟩
  · exact ⟨_, mr_body, fun M L bx q r s hs hq _ => by rw [s_body]; exact rbody_ok M L bx q r s hs hq⟩
  · exact ⟨_, mr_more, fun M L bx q r s hs hq h => by rw [s_more]; exact rmore_ok M L bx q r s hs hq (h (.inr rfl)).1 (h (.inr rfl)).2⟩
theorem pTx_size {s x : ByteArray} {t : Tx} (h : pTx s = some (t, x)) : x.size ≤ s.size := by rw [pTx_back h, app_size]; omega
theorem pMs_size {s x : ByteArray} {l : List Mb} (h : pMs s = some (l, x)) : x.size ≤ s.size := by rw [pMs_back h, app_size]; omega
theorem pAM_size {s x : ByteArray} {z : Int × List Mb} (h : pAM s = some (z, x)) : x.size ≤ s.size := by rw [pAM_back h, app_size, app_size]; omega
theorem pTs_size {n : Nat} {s x : ByteArray} {l : List ByteArray} (h : pTs n s = some (l, x)) : x.size ≤ s.size := by rw [(pTs_back n h).2, app_size]; omega
theorem step_keeps {nm : String} (hn : nm ∈ mNames) {r r' : Re} {s s' : ByteArray} (h : stepR nm r s = some (r', s')) : s'.size ≤ s.size ∧ (¬ listy nm → r'.mem = r.mem ∧ r'.tags = r.tags) := by
  revert h
  refine mNames_cases (q := fun nm => stepR nm r s = some (r', s') → s'.size ≤ s.size ∧ (¬ listy nm → r'.mem = r.mem ∧ r'.tags = r.tags)) ?_ ?_ ?_ ?_ ?_ ?_ ?_ hn
  · rw [s_epoch]; intro h
    obtain ⟨⟨v, x⟩, h1, h2⟩ := Option.bind_eq_some_iff.1 h
    cases h2; exact ⟨pN_size h1, fun _ => ⟨rfl, rfl⟩⟩
  · rw [s_txn]; intro h
    obtain ⟨⟨v, x⟩, h1, h2⟩ := Option.bind_eq_some_iff.1 h
    cases h2; exact ⟨pTx_size h1, fun _ => ⟨rfl, rfl⟩⟩
  · rw [s_yes]; intro h
    obtain ⟨⟨v, x⟩, h1, h2⟩ := Option.bind_eq_some_iff.1 h
    cases h2; exact ⟨pN_size h1, fun _ => ⟨rfl, rfl⟩⟩
  · rw [s_auditor]; intro h
    obtain ⟨⟨v, x⟩, h1, h2⟩ := Option.bind_eq_some_iff.1 h
    cases h2; exact ⟨pN_size h1, fun _ => ⟨rfl, rfl⟩⟩
  · rw [s_members]; intro h
    obtain ⟨⟨v, x⟩, h1, h2⟩ := Option.bind_eq_some_iff.1 h
    cases h2; exact ⟨pMs_size h1, fun hl => absurd (.inl rfl) hl⟩
  · rw [s_body]; intro h
    obtain ⟨⟨v, x⟩, h1, h2⟩ := Option.bind_eq_some_iff.1 h
    cases h2; exact ⟨pT_size h1, fun _ => ⟨rfl, rfl⟩⟩
  · rw [s_more]; intro h
    unfold stMore at h
    refine ⟨?_, fun hl => absurd (.inr rfl) hl⟩
    split at h
    · obtain ⟨⟨v, x⟩, h1, h2⟩ := Option.bind_eq_some_iff.1 h
      obtain ⟨⟨u, y⟩, h3, h4⟩ := Option.bind_eq_some_iff.1 h2
      cases h4
      exact Nat.le_trans (pTs_size h3) (pAM_size h1)
    · cases h; exact Nat.le_refl _
def goR : List String → Re → ByteArray → Option (Re × ByteArray)
  | [], r, s => some (r, s)
  | nm :: l, r, s => (stepR nm r s).bind fun x => goR l x.1 x.2
def re0 (k : Int) : Re := ⟨k, 0, ⟨0, 0, 0⟩, false, 0, [], [], bz⟩
theorem go_rec (k : Int) (s : ByteArray) : goR (methL k) (re0 k) s = pRec k s := by
  by_cases k1 : k = 1
  · subst k1
    rw [meth1]
    simp only [goR, s_epoch, stEpoch, Option.bind_assoc, Option.bind_some]
    rfl
  by_cases k2 : k = 2
  · subst k2
    rw [meth2]
    simp only [goR, s_txn, s_yes, s_auditor, s_members, s_body, stTxn, stYes, stAuditor, stMembers, stBody, Option.bind_assoc, Option.bind_some, pRec, if_neg k1, if_true, pY, pAM]
    rfl
  by_cases k3 : k = 3
  · subst k3
    rw [meth3]
    simp only [goR, s_txn, s_yes, s_more, stTxn, stYes, stMore, Option.bind_assoc, Option.bind_some, pRec, if_neg k1, if_neg k2, if_true, pY]
    cases pTx s with
    | none => rfl
    | some x =>
      simp only [Option.bind_some]
      cases pN 1 x.2 with
      | none => rfl
      | some y =>
        simp only [Option.bind_some]
        by_cases hy : (y.1 == 1) = true
        · rw [if_pos hy, if_pos hy, Option.bind_assoc]
          simp only [hy, Option.bind_assoc, Option.bind_some]
          rfl
        · rw [if_neg hy, if_neg hy, Option.bind_some]
          have hy : (y.1 == 1) = false := by simpa using hy
          simp only [hy]
          rfl
  by_cases k4 : k = 4
  · subst k4
    rw [meth4]
    simp only [goR, s_txn, s_yes, stTxn, stYes, Option.bind_assoc, Option.bind_some, pRec, if_neg k1, if_neg k2, if_neg k3, if_true, pY]
    rfl
  rw [methL, if_neg k1, if_neg k2, if_neg k3, if_neg k4, pRec, if_neg k1, if_neg k2, if_neg k3, if_neg k4]
  rfl
theorem methL_once (k : Int) : ∀ (j : Nat) (nm : String), (methL k)[j]? = some nm → listy nm → ∀ nm' ∈ (methL k).drop (j + 1), ¬ listy nm' := by
  unfold methL listy
  repeat' split
  all_goals intro j nm hj hl nm' hn'
  · rcases j with _ | j
    · simp at hn'
    · simp at hj
  · rcases j with _ | _ | _ | _ | _ | j <;> simp at hj <;> subst hj <;> simp at hl hn' <;> subst hn' <;> simp
  · rcases j with _ | _ | _ | j <;> simp at hj <;> subst hj <;> simp at hl hn'
  · rcases j with _ | _ | j <;> simp at hj <;> subst hj <;> simp at hl
  · simp at hj
end Go.Proofs.YtkjljcgbnikmkaaGreatDoor
namespace Go.Proofs.YtkjljcgbnikmkaaGreatDoor
open Go.Chi
set_option maxRecDepth 10000
theorem TrE.perm {P : Program} {f : FuncId} {args : List Value} {M : Mem} {L L' : HL} {K : Ending → Mem → HL → Prop} (hp : L.Perm L') (h : TrE P f args M L' K) : TrE P f args M L K := ⟨h.1, fun w hw => h.2 w (hw.perm hp)⟩
set_option maxRecDepth 10000 in
set_option maxHeartbeats 16000000 in
theorem decode1_ok (M : Mem) (L : HL) (bx bs bp : Nat) (q : Rd) (s s1 : ByteArray) (hs0 : 0 < s.size) (hs : s1.size < 4611686018427387904) (hbs : Cells M [] bs 0 [.string s]) (hbp : Cells M [] bp 0 [.pointer (some ⟨bx, 0, none⟩)]) (hq : Rr M q (re0 (byte s 0))) :
    TrE Tryz.prog 99 [.pointer (some ⟨bs, 0, none⟩), .pointer (some ⟨bp, 0, none⟩)] M (rdB bx q s1 :: L) (rmK (pRec (byte s 0) s1) bx M L) := by
  obtain ⟨b0, hb0, hb0'⟩ := byte_at hs0
  rw [← go_rec]
  generalize hk : byte s 0 = k at hq ⊢
  have hkb : (b0.toNat : Int) = k := by rw [← hk, hb0']
  refine TrE.intro 17 Tryz.func99 rfl rfl Tryz.call99 rfl ?_
  intro C hC hro
  repeat (first | refine zz ?_ | refine zx fun _ => ?_ | refine dd ?_ | refine dz ?_ | refine dx fun _ => ?_ | refine prn_q rfl (qt_ldM (k := 0) tok rfl hbs rfl) (by decide +kernel) rfl rfl rfl ?_ | refine prn_q rfl (qt_ldM (k := 0) tok rfl hbp rfl) (by decide +kernel) rfl rfl rfl ?_ | refine prn_q rfl (qt_strIndex (n := 0) tok rfl rfl rfl (fun _ => hb0)) (by decide +kernel) rfl rfl rfl ?_ | refine prn_q rfl (qt_makeIfaceC tok rfl rfl rfl) (by decide +kernel) rfl rfl rfl ?_)
  refine pr_as 5 (.int .u8 k) rfl (by rw [hkb]) ?_
  refine pr_q 6 (by decide +kernel) rfl (qt_pev tok rfl) rfl rfl rfl ?_
  refine pr_one 4 (by decide +kernel) (eff1 4 rfl (st_callF rfl (fun _ => of_ok _ _ _ _ _)) (by decide +kernel) (qs := _) rfl rfl rfl rfl ?_)
  rintro _ M1 _ ⟨hM1, rfl, a, c, rfl, hsl⟩
  refine ⟨by (repeat (first | exact trivial | refine And.intro (pend_q rfl rfl rfl (qt_pev tok rfl)) ?_ | refine And.intro (pend_q rfl rfl rfl (ql tok rfl)) ?_)), ?_⟩
  refine pr_q 5 (by decide +kernel) rfl (qt_pev tok rfl) rfl rfl rfl ?_
  refine pr_end (by decide +kernel) (by decide +kernel) ?_
  repeat (first | refine zz ?_ | refine zx fun _ => ?_ | refine dd ?_ | refine dz ?_ | refine dx fun _ => ?_)
  refine run_loopN (fun j σ1 M2 L1 => j ≤ (methL k).length ∧ ∃ (rj : Re) (sj : ByteArray) (qj : Rd), M1.le M2 ∧ Rr M2 qj rj ∧ goR (methL k) (re0 k) s1 = goR ((methL k).drop j) rj sj ∧ (∀ nm ∈ (methL k).drop j, listy nm → rj.mem = [] ∧ rj.tags = []) ∧ sj.size ≤ s1.size ∧ L1 = rdB bx qj sj :: L ∧ σ1 = [(10, .int .i64 (j : Int)), (9, .int .i64 ((methL k).length : Int)), (8, .slice a (methL k).length c)]) (methL k).length [(10, .int .i64 ((0 : Nat) : Int)), (9, .int .i64 ((methL k).length : Int)), (8, .slice a (methL k).length c)] ?_ ⟨Nat.zero_le _, re0 k, s1, q, Mem.le_refl _, hq.le hM1, rfl, fun _ _ _ => ⟨rfl, rfl⟩, Nat.le_refl _, rfl, rfl⟩ (fun j _ _ _ h => h.1) ?_
  · exact ⟨rfl, rfl, rfl, trivial⟩
  rintro j _ M2 _ ⟨hj, rj, sj, qj, hM2, hqj, hgo, hli, hsj, rfl, rfl⟩ hnext
  repeat (first | refine zz ?_ | refine zx fun _ => ?_)
  refine run_cond rfl (fun h => ?_) (fun h => ?_)
  · have hlt : j < (methL k).length := by simpa using h
    have hl5 := methL_len k
    obtain ⟨b, off, cl, rfl, hcl, _, hcells⟩ := (hsl.le hM2).at_ hlt
    obtain ⟨nm, hnm, rfl⟩ : ∃ nm, (methL k)[j]? = some nm ∧ [mv 141 (.pointer (some ⟨bx, 0, none⟩)) nm] = cl := by simpa using hcl
    have hmn := methL_sub (List.mem_of_getElem? hnm)
    obtain ⟨f, hf, htr⟩ := rmeth_ok hmn
    have hdr : (methL k).drop j = nm :: (methL k).drop (j + 1) := by
      obtain ⟨hl, he⟩ := List.getElem?_eq_some_iff.1 hnm
      rw [← he]; exact (List.getElem_cons_drop (h := hl)).symm
    rw [hdr, goR] at hgo
    rw [hdr] at hli
    repeat (first | refine zz ?_ | refine zx fun _ => ?_ | refine runL_q (qt_indexN tok rfl rfl rfl rfl (fun _ => by omega)) rfl rfl rfl ?_ | refine runL_g rfl rfl (qt_indexN tok rfl rfl rfl rfl (fun _ => by omega)) rfl rfl rfl rfl rfl ?_ | refine runL_q (qt_ldM tok rfl hcells rfl) rfl rfl rfl ?_ | refine runL_g rfl rfl (qt_ldM tok rfl hcells rfl) rfl rfl rfl rfl rfl ?_ | refine runL_q (qt_ldM0 tok rfl hcells rfl) rfl rfl rfl ?_ | refine runL_g rfl rfl (qt_ldM0 tok rfl hcells rfl) rfl rfl rfl rfl rfl ?_)
    refine runL_callME rfl rfl hf (htr M2 L bx qj rj sj (by omega) hqj (hli nm List.mem_cons_self)) rfl rfl rfl ?_ ?_
    · rintro v M3 L3 ⟨hM3, hv⟩
      cases hst : stepR nm rj sj with
      | none => rw [hst] at hv; cases hv.1
      | some x =>
        rw [hst] at hv
        obtain ⟨hv, q3, hq3, rfl⟩ := hv
        rw [Ending.returned.injEq] at hv
        subst hv
        rw [hst, Option.bind_some] at hgo
        obtain ⟨r3, s3⟩ := x
        obtain ⟨hk1, hk2⟩ := step_keeps hmn hst
        repeat (first | refine zz ?_ | refine zx fun _ => ?_)
        refine run_sub' (hnext _ _ _ ⟨hlt, r3, s3, q3, Mem.le_trans hM2 hM3, hq3, hgo, ?_, by omega, rfl, rfl⟩) ⟨lk_succ rfl (by omega), rfl, rfl, trivial⟩
        intro nm' hn' hl'
        have hnl : ¬ listy nm := fun hl => methL_once k j nm hnm hl nm' hn' hl'
        obtain ⟨h5, h6⟩ := hk2 hnl
        rw [h5, h6]
        exact hli nm' (List.mem_cons_of_mem _ hn') hl'
    · rintro ch M3 L3 ⟨hM3, hv⟩
      cases hst : stepR nm rj sj with
      | some x => rw [hst] at hv; cases hv.1
      | none =>
        rw [hst] at hv
        obtain ⟨hv, rfl⟩ := hv
        rw [Ending.panicked.injEq] at hv
        subst hv
        rw [hst] at hgo
        refine runX_pan hC (fun _ h => h) ?_
        rw [hgo]
        exact ⟨Mem.le_trans hM1 (Mem.le_trans hM2 hM3), rfl, rfl⟩
  · have hge : j = (methL k).length := by simp at h; omega
    subst hge
    rw [List.drop_length, goR] at hgo
    repeat (first | refine zz ?_ | refine zx fun _ => ?_)
    refine run_endX hro ?_
    refine runX_ret hC (rs := []) rfl (vs := []) trivial (fun _ h => h) ?_
    rw [hgo]
    exact rmK_some (Mem.le_trans hM1 hM2) hqj
end Go.Proofs.YtkjljcgbnikmkaaGreatDoor
namespace Go.Proofs.YtkjljcgbnikmkaaGreatDoor
open Go.Chi
set_option maxRecDepth 10000
def caughtK (o : Option (Re × ByteArray)) (bx : Nat) (M : Mem) (L : HL) (v : Value) (M' : Mem) (L' : HL) : Prop :=
  M.le M' ∧ match o with | some x => v = .int .i64 0 ∧ ∃ q, Rr M' q x.1 ∧ L' = rdB bx q x.2 :: L | none => v = .int .i64 7 ∧ L' = L
set_option maxRecDepth 10000 in
set_option maxHeartbeats 4000000 in
theorem rcaught_ok (M : Mem) (L : HL) (bx : Nat) (q : Rd) (s : ByteArray) (g : Nat) (cap : List Value) (o : Option (Re × ByteArray)) (hw : ∀ L, TrE Tryz.prog g cap M (rdB bx q s :: L) (rmK o bx M L)) :
    Tr Tryz.prog 98 [.func (.func g) ⟨[]⟩ ⟨cap⟩] M (rdB bx q s :: L) (caughtK o bx M L) := by
  refine TrE.tr (K := fun en M' L' => ∃ v, en = .returned v ∧ caughtK o bx M L v M' L') ?_ (fun e M' L' ⟨v, h1, h2⟩ => ⟨v, h1, h2⟩)
  refine TrE.intro 6 Tryz.func98 rfl rfl Tryz.call98 rfl ?_
  intro C hC hro
  repeat (first | refine zz ?_ | refine zx fun _ => ?_)
  rename_i b2
  have hthrow : ∀ M1, M.le M1 → o = none → RunX Tryz.prog C 6 (.panicking panR) [⟨.fn (.func 123) ⟨[.pointer (some ⟨b2, 0, none⟩)]⟩, #[]⟩] [(2, .pointer (some ⟨b2, 0, none⟩))] M1 ((b2, .cells ⟨[.int .i64 0]⟩ 38 (0, 0)) :: L) := by
    intro M1 hM1 ho
    refine runX_defer (args := [.pointer (some ⟨b2, 0, none⟩)]) 7 (by simp) Tryz.func123 rfl rfl Tryz.call123 rfl rfl ?_
    intro a0 k0 q1 q2 q3
    refine run_seq ?_
    refine run_region ?_
    refine runL_recover rfl rfl rfl ?_
    repeat (first | refine zz ?_ | refine zx fun _ => ?_)
    refine runL_q (qt_neNil (v := .int .i64 7) uAny rfl) rfl rfl rfl ?_
    repeat (first | refine zz ?_ | refine zx fun _ => ?_)
    refine run_cond rfl (fun _ => ?_) (fun h => ?_)
    rotate_left
    · cases h
    repeat (first | refine zz ?_ | refine zx fun _ => ?_ | refine runL_q (qt_assertC tok rfl rfl rfl) rfl rfl rfl ?_)
    refine run_endX rfl ?_
    refine runX_dret Tryz.func123 rfl q1 q2 q3 ?_
    show RunX _ _ _ .returning _ _ _ _
    refine runX_ret hC (rs := [.cell 2 38]) rfl (rl tok rfl resN) (fun _ h => h.drop) ⟨_, rfl, hM1, ?_⟩
    rw [ho]
    exact ⟨rfl, rfl⟩
  refine runL_defer hro rfl rfl ?_
  repeat (first | refine zz ?_ | refine zx fun _ => ?_)
  refine runL_callVE (vs := []) rfl rfl (TrE.perm (List.Perm.swap _ _ _) (hw ((b2, .cells ⟨[.int .i64 0]⟩ 38 (0, 0)) :: L))) rfl rfl rfl ?_ ?_
  · rintro v M1 L1 ⟨hM1, hv⟩
    cases o with
    | none => cases hv.1
    | some x =>
      obtain ⟨hv, q1, hq1, rfl⟩ := hv
      rw [Ending.returned.injEq] at hv
      subst hv
      repeat (first | refine zz ?_ | refine zx fun _ => ?_)
      refine run_retX hro ?_
      refine runX_sub (σ' := [(2, .pointer (some ⟨b2, 0, none⟩))]) ?_ ⟨rfl, trivial⟩
      refine runX_defer (args := [.pointer (some ⟨b2, 0, none⟩)]) 7 (by simp) Tryz.func123 rfl rfl Tryz.call123 rfl rfl ?_
      intro a0 k0 q1 q2 q3
      refine run_seq ?_
      refine run_region ?_
      refine runL_recover0 rfl rfl rfl ?_
      repeat (first | refine zz ?_ | refine zx fun _ => ?_ | refine runL_q (qt_neNil0 uAny rfl) rfl rfl rfl ?_)
      refine run_cond rfl (fun h => ?_) (fun _ => ?_)
      · cases h
      repeat (first | refine zz ?_ | refine zx fun _ => ?_)
      refine run_endX rfl ?_
      refine runX_dret Tryz.func123 rfl q1 q2 q3 ?_
      show RunX _ _ _ .returning _ _ _ _
      refine runX_ret hC (rs := [.cell 2 38]) rfl (rl tok rfl resN) (fun _ h => (h.perm (List.Perm.swap _ _ _)).drop) ⟨_, rfl, hM1, rfl, _, hq1, rfl⟩
  · rintro ch M1 L1 ⟨hM1, hv⟩
    cases o with
    | some x => cases hv.1
    | none =>
      obtain ⟨hv, rfl⟩ := hv
      rw [Ending.panicked.injEq] at hv
      subst hv
      exact runX_sub (hthrow M1 hM1 rfl) ⟨rfl, trivial⟩
end Go.Proofs.YtkjljcgbnikmkaaGreatDoor
namespace Go.Proofs.YtkjljcgbnikmkaaGreatDoor
open Go.Chi
set_option maxRecDepth 10000
theorem pTs_short : ∀ (n : Nat) {s x : ByteArray} {l : List ByteArray}, pTs n s = some (l, x) → ∀ t ∈ l, t.size ≤ 8192
  | 0, s, x, l, h => by
    rw [pTs] at h
    cases h
    exact fun t ht => by cases ht
  | n + 1, s, x, l, h => by
    rw [pTs] at h
    obtain ⟨⟨d, s2⟩, h2, h⟩ := Option.bind_eq_some_iff.1 h
    obtain ⟨⟨l', s3⟩, h3, h⟩ := Option.bind_eq_some_iff.1 h
    cases h
    intro t ht
    rcases List.mem_cons.1 ht with rfl | ht
    · exact (pT_back h2).1
    · exact pTs_short n h3 t ht
theorem pAM_short {s x : ByteArray} {z : Int × List Mb} (h : pAM s = some (z, x)) : ∀ m ∈ z.2, m.digest.size ≤ 8192 := by
  rw [pAM] at h
  obtain ⟨⟨a, s1⟩, h1, h⟩ := Option.bind_eq_some_iff.1 h
  obtain ⟨⟨l, s2⟩, h2, h⟩ := Option.bind_eq_some_iff.1 h
  cases h
  rw [pMs] at h2
  obtain ⟨⟨c, s3⟩, h3, h2⟩ := Option.bind_eq_some_iff.1 h2
  exact fun m hm => ((pMb_back _ h2).2.2 m hm).2.2
theorem pRec_short {k : Int} {s x : ByteArray} {r : Re} (h : pRec k s = some (r, x)) : Short r := by
  unfold pRec at h
  split at h
  · obtain ⟨⟨a, s1⟩, h1, h⟩ := Option.bind_eq_some_iff.1 h
    cases h
    exact ⟨(fun m hm => by cases hm), (fun m hm => by cases hm), Nat.zero_le _⟩
  split at h
  · obtain ⟨⟨t, s1⟩, h1, h⟩ := Option.bind_eq_some_iff.1 h
    obtain ⟨⟨y, s2⟩, h2, h⟩ := Option.bind_eq_some_iff.1 h
    obtain ⟨⟨z, s3⟩, h3, h⟩ := Option.bind_eq_some_iff.1 h
    obtain ⟨⟨u, s4⟩, h4, h⟩ := Option.bind_eq_some_iff.1 h
    cases h
    exact ⟨pAM_short h3, (fun m hm => by cases hm), (pT_back h4).1⟩
  split at h
  · obtain ⟨⟨t, s1⟩, h1, h⟩ := Option.bind_eq_some_iff.1 h
    obtain ⟨⟨y, s2⟩, h2, h⟩ := Option.bind_eq_some_iff.1 h
    simp only at h
    split at h
    · obtain ⟨⟨z, s3⟩, h3, h⟩ := Option.bind_eq_some_iff.1 h
      obtain ⟨⟨u, s4⟩, h4, h⟩ := Option.bind_eq_some_iff.1 h
      cases h
      exact ⟨pAM_short h3, pTs_short _ h4, Nat.zero_le _⟩
    · cases h
      exact ⟨(fun m hm => by cases hm), (fun m hm => by cases hm), Nat.zero_le _⟩
  split at h
  · obtain ⟨⟨t, s1⟩, h1, h⟩ := Option.bind_eq_some_iff.1 h
    obtain ⟨⟨y, s2⟩, h2, h⟩ := Option.bind_eq_some_iff.1 h
    cases h
    exact ⟨(fun m hm => by cases hm), (fun m hm => by cases hm), Nat.zero_le _⟩
  · cases h
    exact ⟨(fun m hm => by cases hm), (fun m hm => by cases hm), Nat.zero_le _⟩
def rc0 : Rc := ⟨0, 0, ⟨0, 0, 0⟩, false, 0, nilM, nilS, ⟨#[]⟩⟩
def decK (s : ByteArray) (M : Mem) (L : HL) (v : Value) (M' : Mem) (L' : HL) : Prop :=
  M.le M' ∧ L' = L ∧ ∃ (r : Rc) (e : Int), v = .tuple ⟨[.agg ⟨rcC r⟩, .int .i64 e]⟩ ∧ RcOk M' r ∧ Short r.re ∧ ((e = 0 ∧ Dec s r.re) ∨ (e = 7 ∧ r = rc0 ∧ ∀ x, ¬ Dec s x))
theorem rc0_ok (M : Mem) : RcOk M rc0 := ⟨MbOk.nil M, StOk.nil M, (fun m hm => by cases hm), (fun m hm => by cases hm), by decide⟩
theorem rc0_short : Short rc0.re := ⟨(fun m hm => by cases hm), (fun m hm => by cases hm), by decide⟩
theorem decK_none {s : ByteArray} {M M' : Mem} {L : HL} (hm : M.le M') (h : ∀ x, ¬ Dec s x) : decK s M L (.tuple ⟨[.agg ⟨rcC rc0⟩, .int .i64 7]⟩) M' L := ⟨hm, rfl, rc0, 7, rfl, rc0_ok M', rc0_short, .inr ⟨rfl, rfl, h⟩⟩
theorem Rr.rc {M : Mem} {q : Rd} {r : Re} (h : Rr M q r) (hs : Short r) : ∃ rc : Rc, rc.re = r ∧ RcOk M rc ∧ ∀ s, rdC q s = rcC rc ++ [.string s] := by
  obtain ⟨sm, h1, h2, h3⟩ := h.mem
  obtain ⟨st, h4, h5, h6⟩ := h.tags
  obtain ⟨s1, s2, s3⟩ := hs
  obtain ⟨k, e, t, y, a, m, g, b⟩ := r
  obtain ⟨k1, k2, k3, k4, k5, k6, _, _, _, _⟩ := h
  simp only at k1 k2 k3 k4 k5 k6 h3 h6 s1 s2 s3
  refine ⟨⟨k, e, t, y, a, sm, st, b⟩, by simp only [Rc.re, h3, h6], ⟨h2, h5, fun m hm => ?_, fun t ht => ?_, by show b.size < _; omega⟩, fun s => ?_⟩
  · have := s1 m (by rw [← h3]; exact hm); omega
  · have := s2 t (by rw [← h6]; exact ht); omega
  · rw [rdC, h1, h4, k1, k2, k3, k4, k5, k6]; rfl
set_option maxRecDepth 10000 in
set_option maxHeartbeats 16000000 in
theorem decode_ok (M : Mem) (L : HL) (s : ByteArray) (hs : s.size < 4611686018427387904) : Tr Tryz.prog 70 [.string s] M L (decK s M L) := by
  refine Tr.intro 45 Tryz.func70 rfl rfl Tryz.call70 rfl ?_
  intro C hC hro
  repeat (first | refine zz ?_ | refine zx fun _ => ?_)
  refine run_cond rfl (fun h => ?_) (fun h => ?_)
  · have h0 : s.size = 0 ∨ 8192 < s.size := by
      rw [empty_beq] at h
      simp only [Bool.or_eq_true, decide_eq_true_eq] at h
      omega
    have hnd : ∀ x, ¬ Dec s x := fun x hx => by
      obtain ⟨h1, h2, _⟩ := dec_iff.1 hx
      omega
    repeat (first | refine zz ?_ | refine zx fun _ => ?_)
    exact run_ret hC (rs := [.cell 2 35, .tmp 3]) rfl (rl tok rfl (resT rfl resN)) (fun _ h => h.drop.drop) (decK_none (Mem.le_refl _) hnd)
  have h0 : s.size ≠ 0 ∧ s.size ≤ 8192 := by
    rw [empty_beq] at h
    simp only [Bool.or_eq_false_iff, decide_eq_false_iff_not] at h
    omega
  have hp : 0 < s.size := by omega
  obtain ⟨b0, hb0, hb0'⟩ := byte_at hp
  refine run_frz 1 rfl ?_
  intro M0 hM0 hb0s
  have hbs := Cells.ofBlk hb0s
  rename_i bs br
  have hbb : (b0.toNat : Int) = byte s 0 := hb0'.symm
  refine run_skip ?_
  refine run_seq ?_
  refine run_cut (fun σ' M' L' => ∃ bx bp, M0.le M' ∧ Cells M' [] bp 0 [.pointer (some ⟨bx, 0, none⟩)] ∧ σ' = [(4, .pointer (some ⟨bp, 0, none⟩)), (2, .pointer (some ⟨br, 0, none⟩)), (1, .pointer (some ⟨bs, 0, none⟩))] ∧ L' = rdB bx ⟨byte s 0, 0, ⟨0, 0, 0⟩, false, 0, .slice none 0 0, .slice none 0 0, ⟨#[]⟩⟩ (rest1 s) :: (br, .cells ⟨rcC rc0⟩ 35 (0, 0)) :: L) ?_ ?_
  rotate_left
  · intro hnext
    refine run_draw mixed ?_
    refine pr_q 0 (by decide +kernel) rfl (qt_ldM (k := 0) tok rfl hbs rfl) rfl rfl rfl ?_
    refine pr_q 1 (by decide +kernel) rfl (Qt.as (v' := .int .u8 (byte s 0)) (qt_strIndex (n := 0) tok rfl rfl rfl (fun _ => hb0)) (by rw [hb0'])) rfl rfl rfl ?_
    refine pr_q 2 (by decide +kernel) rfl (qt_pev tok rfl) rfl rfl rfl ?_
    refine pr_q 3 (by decide +kernel) rfl (qt_ldM (k := 0) tok rfl hbs rfl) rfl rfl rfl ?_
    refine pr_q 4 (by decide +kernel) rfl (qt_strLo (n := 1) tok rfl rfl rfl (fun _ => hp)) rfl rfl rfl ?_
    refine pr_q 5 (by decide +kernel) rfl (qt_pev tok rfl) rfl rfl rfl ?_
    refine pr_two 6 7 (by decide +kernel) ?_ ?_
    · refine eff1 6 rfl (st_box rfl) (by decide +kernel) (qs := _) rfl rfl rfl rfl ?_
      rintro _ _ _ ⟨bx, rfl, rfl, rfl⟩
      refine ⟨by (repeat (first | exact trivial | refine And.intro (pend_q rfl rfl rfl (qt_pev tok rfl)) ?_ | refine And.intro (pend_q rfl rfl rfl (ql tok rfl)) ?_ | refine And.intro (pend_q rfl rfl rfl (qt_ldM (k := 0) tok rfl hbs rfl)) ?_ | refine And.intro (pend_q rfl rfl rfl (Qt.as (qt_strIndex (n := 0) tok rfl rfl rfl (fun _ => hb0)) (by rw [hb0']))) ?_ | refine And.intro (pend_q rfl rfl rfl (qt_strLo (n := 1) tok rfl rfl rfl (fun _ => hp))) ?_)), ?_⟩
      refine pr_one 7 (by decide +kernel) (eff1 7 rfl (st_alloc tok rfl) (by decide +kernel) (qs := _) rfl rfl rfl rfl ?_)
      rintro _ _ _ ⟨bp, rfl, rfl, rfl⟩
      refine ⟨by (repeat (first | exact trivial | refine And.intro (pend_q rfl rfl rfl (qt_pev tok rfl)) ?_ | refine And.intro (pend_q rfl rfl rfl (ql tok rfl)) ?_ | refine And.intro (pend_q rfl rfl rfl (qt_ldM (k := 0) tok rfl hbs rfl)) ?_ | refine And.intro (pend_q rfl rfl rfl (Qt.as (qt_strIndex (n := 0) tok rfl rfl rfl (fun _ => hb0)) (by rw [hb0']))) ?_ | refine And.intro (pend_q rfl rfl rfl (qt_strLo (n := 1) tok rfl rfl rfl (fun _ => hp))) ?_)), ?_⟩
      refine pr_one 8 (by decide +kernel) (eff0 8 rfl (sst tok rfl rfl rfl rfl rfl) (by decide +kernel) (qs := _) rfl ?_)
      rintro _ _ _ ⟨rfl, rfl, rfl⟩
      refine ⟨by (repeat (first | exact trivial | refine And.intro (pend_q rfl rfl rfl (qt_pev tok rfl)) ?_ | refine And.intro (pend_q rfl rfl rfl (ql tok rfl)) ?_ | refine And.intro (pend_q rfl rfl rfl (qt_ldM (k := 0) tok rfl hbs rfl)) ?_ | refine And.intro (pend_q rfl rfl rfl (Qt.as (qt_strIndex (n := 0) tok rfl rfl rfl (fun _ => hb0)) (by rw [hb0']))) ?_ | refine And.intro (pend_q rfl rfl rfl (qt_strLo (n := 1) tok rfl rfl rfl (fun _ => hp))) ?_)), ?_⟩
      refine pr_end (by decide +kernel) (by decide +kernel) ?_
      refine run_frz 0 rfl ?_
      intro M1 hM1 hb1
      exact run_sub' (hnext _ _ _ ⟨bx, bp, hM1, Cells.ofBlk hb1, rfl, rfl⟩) ⟨rfl, rfl, rfl, trivial⟩
    · refine eff1 7 rfl (st_alloc tok rfl) (by decide +kernel) (qs := _) rfl rfl rfl rfl ?_
      rintro _ _ _ ⟨bp, rfl, rfl, rfl⟩
      refine ⟨by (repeat (first | exact trivial | refine And.intro (pend_q rfl rfl rfl (qt_pev tok rfl)) ?_ | refine And.intro (pend_q rfl rfl rfl (ql tok rfl)) ?_ | refine And.intro (pend_q rfl rfl rfl (qt_ldM (k := 0) tok rfl hbs rfl)) ?_ | refine And.intro (pend_q rfl rfl rfl (Qt.as (qt_strIndex (n := 0) tok rfl rfl rfl (fun _ => hb0)) (by rw [hb0']))) ?_ | refine And.intro (pend_q rfl rfl rfl (qt_strLo (n := 1) tok rfl rfl rfl (fun _ => hp))) ?_)), ?_⟩
      refine pr_one 6 (by decide +kernel) (eff1 6 rfl (st_box rfl) (by decide +kernel) (qs := _) rfl rfl rfl rfl ?_)
      rintro _ _ _ ⟨bx, rfl, rfl, rfl⟩
      refine ⟨by (repeat (first | exact trivial | refine And.intro (pend_q rfl rfl rfl (qt_pev tok rfl)) ?_ | refine And.intro (pend_q rfl rfl rfl (ql tok rfl)) ?_ | refine And.intro (pend_q rfl rfl rfl (qt_ldM (k := 0) tok rfl hbs rfl)) ?_ | refine And.intro (pend_q rfl rfl rfl (Qt.as (qt_strIndex (n := 0) tok rfl rfl rfl (fun _ => hb0)) (by rw [hb0']))) ?_ | refine And.intro (pend_q rfl rfl rfl (qt_strLo (n := 1) tok rfl rfl rfl (fun _ => hp))) ?_)), ?_⟩
      refine pr_one 8 (by decide +kernel) (eff0 8 rfl (sst tok rfl rfl rfl rfl rfl) (by decide +kernel) (qs := _) rfl ?_)
      rintro _ _ _ ⟨rfl, rfl, rfl⟩
      refine ⟨by (repeat (first | exact trivial | refine And.intro (pend_q rfl rfl rfl (qt_pev tok rfl)) ?_ | refine And.intro (pend_q rfl rfl rfl (ql tok rfl)) ?_ | refine And.intro (pend_q rfl rfl rfl (qt_ldM (k := 0) tok rfl hbs rfl)) ?_ | refine And.intro (pend_q rfl rfl rfl (Qt.as (qt_strIndex (n := 0) tok rfl rfl rfl (fun _ => hb0)) (by rw [hb0']))) ?_ | refine And.intro (pend_q rfl rfl rfl (qt_strLo (n := 1) tok rfl rfl rfl (fun _ => hp))) ?_)), ?_⟩
      refine pr_end (by decide +kernel) (by decide +kernel) ?_
      refine run_frz 1 rfl ?_
      intro M1 hM1 hb1
      exact run_sub' (hnext _ _ _ ⟨bx, bp, hM1, Cells.ofBlk hb1, rfl, rfl⟩) ⟨rfl, rfl, rfl, trivial⟩
  rintro _ M1 _ ⟨bx, bp, hM1, hbp, rfl, rfl⟩
  have hq0 : Rr M1 ⟨byte s 0, 0, ⟨0, 0, 0⟩, false, 0, .slice none 0 0, .slice none 0 0, ⟨#[]⟩⟩ (re0 (byte s 0)) := ⟨rfl, rfl, rfl, rfl, rfl, rfl, ⟨nilM, rfl, MbOk.nil _, rfl⟩, ⟨nilS, rfl, StOk.nil _, rfl⟩, fun _ => rfl, fun _ => rfl⟩
  have hr1 : (rest1 s).size < 4611686018427387904 := by rw [rest1_size]; omega
  repeat (first | refine zz ?_ | refine zx fun _ => ?_)
  refine runL_op (st_callF rfl (fun _ => rcaught_ok M1 _ bx _ _ 99 [.pointer (some ⟨bs, 0, none⟩), .pointer (some ⟨bp, 0, none⟩)] (pRec (byte s 0) (rest1 s)) (fun L => decode1_ok M1 L bx bs bp _ s (rest1 s) hp hr1 (hbs.le hM1) hbp hq0))) rfl rfl rfl ?_
  rintro v M2 L2 ⟨hM2, hv⟩
  have hle : M.le M2 := Mem.le_trans hM0 (Mem.le_trans hM1 hM2)
  have hbp2 := hbp.le hM2
  cases ho : pRec (byte s 0) (rest1 s) with
  | none =>
    rw [ho] at hv
    obtain ⟨rfl, rfl⟩ := hv
    have hnd : ∀ x, ¬ Dec s x := fun x hx => by
      obtain ⟨_, _, _, y, h1, _⟩ := dec_iff.1 hx
      rw [ho] at h1; cases h1
    repeat (first | refine zc ?_ | refine zk ?_ | refine zx fun _ => ?_)
    refine run_cond rfl (fun _ => ?_) (fun h => by cases h)
    repeat (first | refine zz ?_ | refine zx fun _ => ?_)
    exact run_ret hC (rs := [.cell 2 35, .tmp 3]) rfl (rl tok rfl (resT rfl resN)) (fun _ h => h.drop) (decK_none hle hnd)
  | some y =>
    obtain ⟨r, x⟩ := y
    rw [ho] at hv
    obtain ⟨rfl, q2, hq2, rfl⟩ := hv
    have hsh := pRec_short ho
    obtain ⟨rc, rfl, hrc, hcells⟩ := hq2.rc hsh
    have hbx : rdB bx q2 x = (bx, .cells ⟨rcC rc ++ [.string x]⟩ 143 (0, 0)) := by rw [rdB, hcells]
    rw [hbx]
    have hdec : Dec s rc.re ↔ x.size = 0 ∧ recE rc = 0 := by
      rw [dec_iff, recE_re hrc]
      constructor
      · rintro ⟨_, _, h1, z, h2, h3⟩
        rw [ho] at h2
        cases h2
        exact ⟨h3, h1⟩
      · rintro ⟨h1, h2⟩
        exact ⟨h0.1, h0.2, h2, x, ho, h1⟩
    have huniq : ∀ z, Dec s z → Dec s rc.re := fun z hz => by
      obtain ⟨_, _, _, y, h1, _⟩ := dec_iff.1 hz
      rw [ho] at h1
      cases h1
      exact hz
    have e0 : ((0 : Int) != 0) = false := rfl
    repeat (first | refine zc ?_ | refine zk ?_ | refine zx fun _ => ?_ | refine runL_gK rfl rfl (qt_ldM (k := 0) tok rfl hbp2 rfl) rfl rfl rfl ?_ | refine runL_q (qt_ldM (k := 0) tok rfl hbp2 rfl) rfl rfl rfl ?_ | refine runL_g rfl rfl (qt_ldM (k := 0) tok rfl hbp2 rfl) rfl rfl rfl rfl rfl ?_ | refine runL_g rfl rfl (qt_callF rfl (fun _ => recCheck_ok _ _ rc hrc)) rfl rfl rfl rfl rfl ?_)
    have hcond : ∀ t : Bool, (!(x.toList == (⟨#[]⟩ : ByteArray).toList) || (recE rc != 0)) = t → (t = false ↔ Dec s rc.re) := by
      rintro _ rfl
      rw [hdec, empty_beq]
      simp
    refine run_cond rfl (fun h => ?_) (fun h => ?_)
    · have hnd := hcond true h
      repeat (first | refine zz ?_ | refine zx fun _ => ?_)
      exact run_ret hC (rs := [.cell 2 35, .tmp 3]) rfl (rl tok rfl (resT rfl resN)) (fun _ h => h.drop.drop) (decK_none hle (fun z hz => by have := hnd.2 (huniq z hz); cases this))
    · have hd := (hcond false h).1 rfl
      refine run_skip ?_
      repeat (first | refine zz ?_ | refine zx fun _ => ?_ | refine runL_q (qt_ldM (k := 0) tok rfl hbp2 rfl) rfl rfl rfl ?_)
      exact run_ret hC (rs := [.cell 2 35, .tmp 3]) rfl (rl tok rfl (resT rfl resN)) (fun _ h => h.drop.drop) ⟨hle, rfl, rc, 0, rfl, hrc, hsh, .inl ⟨rfl, hd⟩⟩
end Go.Proofs.YtkjljcgbnikmkaaGreatDoor
namespace Go.Proofs.YtkjljcgbnikmkaaGreatDoor
open Go.Chi
theorem head_eq (s : ByteArray) (hs : s.size < 4611686018427387904) : match frontR s with | .ok x => headR s = ((x.1 : Int), (x.2 : Int), 0) | .error e => (headR s).2.2 = e ∧ e ≠ 0 := by
  by_cases he : (headR s).2.2 = 0
  · obtain ⟨n, p, h1, h2⟩ := headR_imp hs he
    rw [h2]; exact h1
  · have hr := rest1_size (s := s)
    unfold headR at he ⊢
    unfold frontR
    by_cases h0 : s.size = 0
    · rw [if_pos h0, if_pos h0]; exact ⟨rfl, by decide⟩
    rw [if_neg h0] at he ⊢
    rw [if_neg h0]
    by_cases h1 : byte s 0 = 100
    · rw [if_pos h1] at he ⊢
      rw [if_pos h1, refText_eq] at *
      have he' : (textR (rest1 s) 1024).2.2 ≠ 0 := he
      rw [if_pos he']
      exact ⟨rfl, he'⟩
    rw [if_neg h1] at he ⊢
    rw [if_neg h1]
    by_cases h2 : byte s 0 = 97
    · rw [if_pos h2] at he ⊢
      rw [if_pos h2]
      rw [refText_eq, name_eq] at he ⊢
      by_cases h3 : (textR (rest1 s) 32).2.2 ≠ 0
      · rw [if_pos h3, if_neg (fun h => h3 h.1)]
        exact ⟨rfl, h3⟩
      · rw [if_neg h3]
        have h3' : (textR (rest1 s) 32).2.2 = 0 := by simpa using h3
        by_cases h4 : namedR (textR (rest1 s) 32).1 = false
        · rw [if_pos h4, if_pos ⟨h3', h4⟩]; exact ⟨rfl, by decide⟩
        · rw [if_neg (fun h => h4 h.2)] at he
          exact absurd h3' he
    rw [if_neg h2] at he ⊢
    rw [if_neg h2]
    by_cases h3 : byte s 0 = 114
    · rw [if_pos h3] at he ⊢
      rw [if_pos h3]
      rw [refNum_eq] at he ⊢
      by_cases h4 : (numR (rest1 s)).2.2 ≠ 0
      · rw [if_pos h4, if_neg (fun h => h4 h.1)]
        exact ⟨rfl, h4⟩
      · rw [if_neg h4]
        have h4' : (numR (rest1 s)).2.2 = 0 := by simpa using h4
        by_cases h5 : 32 < (numR (rest1 s)).1
        · rw [if_pos h5, if_pos ⟨h4', h5⟩]; exact ⟨rfl, by decide⟩
        · rw [if_neg (fun h => h5 h.2)] at he
          exact absurd h4' he
    rw [if_neg h3] at he ⊢
    rw [if_neg h3]
    by_cases h4 : byte s 0 = 104
    · rw [if_pos h4] at he; exact absurd rfl he
    rw [if_neg h4] at he ⊢
    rw [if_neg h4]
    by_cases h5 : byte s 0 = 109
    · rw [if_pos h5] at he; exact absurd rfl he
    rw [if_neg h5] at he ⊢
    rw [if_neg h5]
    by_cases h6 : byte s 0 = 115
    · rw [if_pos h6] at he; exact absurd rfl he
    rw [if_neg h6, if_neg h6]
    exact ⟨rfl, by decide⟩
theorem refRead_eq : ∀ (k : Nat) (w : ByteArray) (a : Nat), w.size < 4611686018427387904 → a ≤ w.size → match walkR w k a with | .ok y => refRead k (w.extract a w.size) = (((y - a : Nat) : Int), 0) ∧ a ≤ y | .error e => refRead k (w.extract a w.size) = (0, e) ∧ e ≠ 0
  | 0, w, a, _, _ => ⟨rfl, by decide⟩
  | k + 1, w, a, hw, ha => by
    have hz : (w.extract a w.size).size = w.size - a := by simp
    have hh := head_eq (w.extract a w.size) (by omega)
    rw [walkR, refRead]
    cases hf : frontR (w.extract a w.size) with
    | error e =>
      rw [hf] at hh
      simp only at hh ⊢
      rw [rloop_err _ _ (by rw [hh.1]; exact hh.2), finR, if_pos (by rw [hh.1]; exact hh.2), hh.1]
      exact ⟨rfl, hh.2⟩
    | ok x =>
      rw [hf] at hh
      simp only at hh ⊢
      have hfl := frontR_len (n := x.1) (p := x.2) hf
      rw [hh]
      simp only [Int.toNat_natCast]
      have key : ∀ (i n : Nat), a + n ≤ w.size → match iter (walkR w k) i (a + n) with | .ok y => rloop (refRead k) (w.extract a w.size) i (n : Int) 0 = (((y - a : Nat) : Int), 0) ∧ a ≤ y | .error e => (rloop (refRead k) (w.extract a w.size) i (n : Int) 0).2 = e ∧ e ≠ 0 := by
        intro i
        induction i with
        | zero => intro n hn; exact ⟨by rw [rloop, show a + n - a = n by omega], by omega⟩
        | succ i ih =>
          intro n hn
          rw [iter, rloop, if_neg (by simp), Int.toNat_natCast]
          have hx := ext_ext w ha hn
          rw [hx]
          have hr := refRead_eq k w (a + n) hw hn
          cases hwk : walkR w k (a + n) with
          | error e =>
            rw [hwk] at hr
            simp only at hr ⊢
            rw [hr.1, rloop_err _ _ hr.2]
            exact ⟨rfl, hr.2⟩
          | ok y =>
            rw [hwk] at hr
            simp only at hr ⊢
            have hyl := walkR_len w k (a + n) y hn hwk
            rw [hr.1]
            have e1 : IntKind.i64.wrap ((n : Int) + ((y - (a + n) : Nat) : Int)) = ((y - a : Nat) : Int) := by
              rw [show (n : Int) + ((y - (a + n) : Nat) : Int) = ((y - a : Nat) : Int) by omega, wrap64_nat (by omega)]
            simp only [e1]
            have := ih (y - a) (by omega)
            rw [show a + (y - a) = y by omega] at this
            exact this
      have hk := key x.2 x.1 (by omega)
      cases hit : iter (walkR w k) x.2 (a + x.1) with
      | error e =>
        rw [hit] at hk
        simp only at hk ⊢
        rw [finR, if_pos (by rw [hk.1]; exact hk.2), hk.1]
        exact ⟨rfl, hk.2⟩
      | ok y =>
        rw [hit] at hk
        simp only at hk ⊢
        rw [finR, hk.1, if_neg (by simp)]
        exact ⟨rfl, hk.2⟩
theorem refCheck_eq (s : ByteArray) (hs : s.size < 4611686018427387904) : refCheck s = checkR s := by
  have h := refRead_eq 16 s 0 hs (Nat.zero_le _)
  rw [ext_all] at h
  unfold refCheck checkR topR
  cases hw : walkR s 16 0 with
  | error e =>
    rw [hw] at h
    simp only at h
    rw [h.1]
    simp [readR, h.2]
  | ok y =>
    rw [hw] at h
    simp only [Nat.sub_zero] at h
    rw [h.1]
    by_cases hy : 16384 < y
    · have hy' : (16384 : Int) < (y : Int) := by omega
      simp [readR, hy, hy']
    · have hy' : ¬ (16384 : Int) < (y : Int) := by omega
      simp only [readR, hy, hy', if_false]
      by_cases e : (y : Int) = (s.size : Int) <;> simp [e]
end Go.Proofs.YtkjljcgbnikmkaaGreatDoor
namespace Go.Proofs.YtkjljcgbnikmkaaGreatDoor
open Go.Chi
set_option maxRecDepth 10000
theorem ref06May_ok (M : Mem) (L : HL) (t : ByteArray) (ht : t.size < 4611686018427387904) : TrQ Tryz.prog 109 [.string t] M L (.bool (isT t)) := by
  refine Tr.intro 6 Tryz.func109 rfl rfl Tryz.call109 rfl ?_
  intro C hC hro
  repeat (first | refine zz ?_ | refine zx fun _ => ?_ | refine runL_q (qt_callF rfl (fun _ => refCheck_ok _ _ t ht)) rfl rfl rfl ?_)
  exact run_ret hC (rs := [.tmp 2]) rfl (resT rfl resN) (fun _ h => h) ⟨by rw [isT, ← refCheck_eq _ ht]; rfl, rfl, rfl⟩
theorem refOrg_ok (M : Mem) (L : HL) (n : Int) : TrQ Tryz.prog 107 [.int .i64 n] M L (.bool (orgW n)) := by
  refine Tr.intro 9 Tryz.func107 rfl rfl Tryz.call107 rfl ?_
  intro C hC hro
  repeat (first | refine zz ?_ | refine zx fun _ => ?_)
  exact run_ret hC (rs := [.tmp 2]) rfl (resT rfl resN) (fun _ h => h) ⟨rfl, rfl, rfl⟩
theorem refTx_ok (M : Mem) (L : HL) (t : Tx) : TrQ Tryz.prog 105 [.agg ⟨txC t⟩] M L (.bool (mayTx t)) := by
  refine Tr.intro 26 Tryz.func105 rfl rfl Tryz.call105 rfl ?_
  intro C hC hro
  repeat (first | refine zz ?_ | refine zx fun _ => ?_ | refine runL_q (qt_callF rfl (fun _ => refOrg_ok _ _ _)) rfl rfl rfl ?_)
  exact run_ret hC (rs := [.tmp 2]) rfl (resT rfl resN) (fun _ h => h.drop) ⟨rfl, rfl, rfl⟩
def badM2 (t : Tx) (first : Bool) (last : Int) (x : Mb) : Bool := (((!orgW x.org) || (x.org == t.coord)) || ((!first) && decide (x.org ≤ last))) || (!isT x.digest)
theorem memGo_first (t : Tx) (x : Mb) : badM t (-1) x = badM2 t true 0 x := by
  unfold badM badM2 isT
  cases h : orgW x.org
  · simp
  · have : decide (x.org ≤ -1) = false := by simp [orgW] at h ⊢; omega
    rw [this]
    simp [bne]
theorem memGo_next (t : Tx) (x : Mb) (last : Int) : badM t last x = badM2 t false last x := by
  unfold badM badM2 isT
  simp [bne]
set_option maxRecDepth 10000 in
set_option maxHeartbeats 8000000 in
theorem refMb_ok (M : Mem) (L : HL) (t : Tx) (s : SMb) (hs : MbOk M s) (hd : ∀ m ∈ s.xs, m.digest.size < 4611686018427387904) : TrQ Tryz.prog 108 [.agg ⟨txC t⟩, s.v] M L (.bool (mayMb t s.xs)) := by
  have hl := hs.len
  have h6 := hs.2
  refine Tr.intro 64 Tryz.func108 rfl rfl Tryz.call108 rfl ?_
  intro C hC hro
  repeat (first | refine zz ?_ | refine zx fun _ => ?_)
  rename_i b2
  refine run_cond rfl (fun h => ?_) (fun h => ?_)
  · have h1 : (decide ((s.len : Int) < 1) || decide ((s.len : Int) > 6)) = true := h
    have h2 : mayMb t s.xs = false := by
      have : (decide ((s.xs.length : Int) ≥ 1) && decide ((s.xs.length : Int) ≤ 6)) = false := by rw [hl]; simp at h1 ⊢; omega
      rw [mayMb, this, Bool.and_false]
    rw [h2] at hC
    repeat (first | refine zz ?_ | refine zx fun _ => ?_)
    exact run_ret hC (rs := [.tmp 4]) rfl (resT rfl resN) (fun _ h => h.drop) ⟨rfl, rfl, rfl⟩
  have h1 : (decide ((s.len : Int) < 1) || decide ((s.len : Int) > 6)) = false := h
  have h2 : mayMb t s.xs = memGo t (-1) s.xs := by
    have : (decide ((s.xs.length : Int) ≥ 1) && decide ((s.xs.length : Int) ≤ 6)) = true := by rw [hl]; simp at h1 ⊢; omega
    rw [mayMb, this, Bool.and_true]
  rw [h2] at hC
  repeat (first | refine zz ?_ | refine zx fun _ => ?_)
  refine run_loopN (fun j σ1 M1 L1 => j ≤ s.len ∧ (∃ last, (j = 0 → last = -1) ∧ (∀ i, j = i + 1 → ∀ m, s.xs[i]? = some m → last = m.org) ∧ memGo t last (s.xs.drop j) = memGo t (-1) s.xs) ∧ M = M1 ∧ L1 = (b2, .cells ⟨txC t⟩ 31 (0, 0)) :: L ∧ σ1 = [(5, .int .i64 (j : Int)), (1, s.v), (2, .pointer (some ⟨b2, 0, none⟩))]) s.len [(5, .int .i64 ((0 : Nat) : Int)), (1, s.v), (2, .pointer (some ⟨b2, 0, none⟩))] ?_ ⟨Nat.zero_le _, ⟨-1, fun _ => rfl, fun i hi => by omega, rfl⟩, rfl, rfl, rfl⟩ (fun j _ _ _ h => h.1) ?_
  · exact ⟨rfl, rfl, rfl, trivial⟩
  rintro j _ _ _ ⟨hj, ⟨last, hl0, hl1, hgo⟩, rfl, rfl, rfl⟩ hnext
  repeat (first | refine zz ?_ | refine zx fun _ => ?_)
  refine run_cond rfl (fun h => ?_) (fun h => ?_)
  · have hlt : j < s.len := by simpa using h
    obtain ⟨b, off, m, hma, hm, hc⟩ := SMb.at_ hs.1 hlt
    have hv : s.v = .slice (some ⟨b, off, none⟩) s.len s.cap := by rw [← hma]; rfl
    have hdr : s.xs.drop j = m :: s.xs.drop (j + 1) := by
      obtain ⟨hl, he⟩ := List.getElem?_eq_some_iff.1 hm
      rw [← he]; exact (List.getElem_cons_drop (h := hl)).symm
    rw [hdr, memGo] at hgo
    have hmd := hd m (List.mem_of_getElem? hm)
    have hnx : badM t last m = false → (∃ last, (j + 1 = 0 → last = -1) ∧ (∀ i, j + 1 = i + 1 → ∀ m, s.xs[i]? = some m → last = m.org) ∧ memGo t last (s.xs.drop (j + 1)) = memGo t (-1) s.xs) := fun hb => ⟨m.org, fun h => by omega, fun i hi m' hm' => by
      obtain rfl : j = i := by omega
      rw [hm] at hm'; cases hm'; rfl, by rw [← hgo, if_neg (by rw [hb]; simp)]⟩
    refine run_as 1 (.slice (some ⟨b, off, none⟩) s.len s.cap) rfl hv ?_
    cases j with
    | zero =>
      have e0 := hl0 rfl
      subst e0
      rw [memGo_first] at hgo hnx
      repeat (first | refine zc ?_ | refine zk ?_ | refine zx fun _ => ?_ | refine dd ?_ | refine dq ?_ | refine dgK ?_ | refine prn_gF rfl rfl rfl (by decide +kernel) rfl rfl rfl ?_ | refine dg ?_ | refine dz ?_ | refine dx fun _ => ?_ | refine prn_q rfl (qt_indexN tok rfl rfl rfl rfl (fun _ => by omega)) (by decide +kernel) rfl rfl rfl ?_ | refine prn_gK rfl rfl rfl (qt_indexN tok rfl rfl rfl rfl (fun _ => by omega)) (by decide +kernel) rfl rfl rfl ?_ | refine prn_gF rfl rfl rfl (by decide +kernel) rfl rfl rfl ?_ | refine prn_g rfl rfl rfl (qt_indexN tok rfl rfl rfl rfl (fun _ => by omega)) (by decide +kernel) rfl rfl rfl rfl rfl ?_ | refine prn_q rfl (qt_ldM tok rfl hc rfl) (by decide +kernel) rfl rfl rfl ?_ | refine prn_gK rfl rfl rfl (qt_ldM tok rfl hc rfl) (by decide +kernel) rfl rfl rfl ?_ | refine prn_gF rfl rfl rfl (by decide +kernel) rfl rfl rfl ?_ | refine prn_g rfl rfl rfl (qt_ldM tok rfl hc rfl) (by decide +kernel) rfl rfl rfl rfl rfl ?_ | refine prn_q rfl (qt_ldM0 tok rfl hc rfl) (by decide +kernel) rfl rfl rfl ?_ | refine prn_gK rfl rfl rfl (qt_ldM0 tok rfl hc rfl) (by decide +kernel) rfl rfl rfl ?_ | refine prn_gF rfl rfl rfl (by decide +kernel) rfl rfl rfl ?_ | refine prn_g rfl rfl rfl (qt_ldM0 tok rfl hc rfl) (by decide +kernel) rfl rfl rfl rfl rfl ?_ | refine prn_q rfl (qt_callF rfl (fun _ => refOrg_ok _ _ _)) (by decide +kernel) rfl rfl rfl ?_ | refine prn_g rfl rfl rfl (qt_callF rfl (fun _ => ref06May_ok _ _ _ hmd)) (by decide +kernel) rfl rfl rfl rfl rfl ?_ | refine prn_g rfl rfl rfl (qt_dead (s := 40) (b := true) (b' := false) (v := .bool false) rfl List.mem_cons_self (by decide)) (by decide +kernel) rfl rfl rfl rfl rfl ?_)
      refine run_cond rfl (fun h => ?_) (fun h => ?_)
      · repeat (first | refine zz ?_ | refine zx fun _ => ?_)
        refine run_ret hC (rs := [.tmp 4]) rfl (resT rfl resN) (fun _ h => h.drop) ⟨?_, rfl, rfl⟩
        rw [if_pos (show badM2 t true 0 m = true from h)] at hgo
        rw [← hgo]; rfl
      · repeat (first | refine zz ?_ | refine zx fun _ => ?_)
        exact run_sub' (hnext _ _ _ ⟨hlt, hnx h, rfl, rfl, rfl⟩) ⟨lk_succ rfl (by omega), by rw [hv]; rfl, rfl, trivial⟩
    | succ i =>
      obtain ⟨b', off', m0, hma0, hm0, hc0⟩ := SMb.at_ hs.1 (show i < s.len by omega)
      rw [hma] at hma0
      cases hma0
      have e0 := hl1 i rfl m0 hm0
      subst e0
      rw [memGo_next] at hgo hnx
      repeat (first | refine zc ?_)
      refine prn_start mixed ?_
      iterate 28 (first | refine dq ?_ | refine dgK ?_ | refine prn_gF rfl rfl rfl (by decide +kernel) rfl rfl rfl ?_ | refine dg ?_ | refine dz ?_ | refine dx fun _ => ?_ | refine prn_q rfl (qt_indexN tok rfl rfl rfl rfl (fun _ => by omega)) (by decide +kernel) rfl rfl rfl ?_ | refine prn_gK rfl rfl rfl (qt_indexN tok rfl rfl rfl rfl (fun _ => by omega)) (by decide +kernel) rfl rfl rfl ?_ | refine prn_gF rfl rfl rfl (by decide +kernel) rfl rfl rfl ?_ | refine prn_g rfl rfl rfl (qt_indexN tok rfl rfl rfl rfl (fun _ => by omega)) (by decide +kernel) rfl rfl rfl rfl rfl ?_ | refine prn_q rfl (qt_ldM tok rfl hc rfl) (by decide +kernel) rfl rfl rfl ?_ | refine prn_gK rfl rfl rfl (qt_ldM tok rfl hc rfl) (by decide +kernel) rfl rfl rfl ?_ | refine prn_gF rfl rfl rfl (by decide +kernel) rfl rfl rfl ?_ | refine prn_g rfl rfl rfl (qt_ldM tok rfl hc rfl) (by decide +kernel) rfl rfl rfl rfl rfl ?_ | refine prn_q rfl (qt_ldM0 tok rfl hc rfl) (by decide +kernel) rfl rfl rfl ?_ | refine prn_gK rfl rfl rfl (qt_ldM0 tok rfl hc rfl) (by decide +kernel) rfl rfl rfl ?_ | refine prn_gF rfl rfl rfl (by decide +kernel) rfl rfl rfl ?_ | refine prn_g rfl rfl rfl (qt_ldM0 tok rfl hc rfl) (by decide +kernel) rfl rfl rfl rfl rfl ?_ | refine prn_q rfl (qt_callF rfl (fun _ => refOrg_ok _ _ _)) (by decide +kernel) rfl rfl rfl ?_)
      refine prn_g rfl rfl rfl (Qt.as (v' := .int .i64 (i : Int)) (qt_pev tok rfl) (by rw [show ((i + 1 : Nat) : Int) - 1 = (i : Int) by omega, wrap64_nat (by omega)])) (by decide +kernel) rfl rfl rfl rfl rfl ?_
      repeat (first | refine zc ?_ | refine zk ?_ | refine zx fun _ => ?_ | refine dd ?_ | refine dq ?_ | refine dgK ?_ | refine prn_gF rfl rfl rfl (by decide +kernel) rfl rfl rfl ?_ | refine dg ?_ | refine dz ?_ | refine dx fun _ => ?_ | refine prn_q rfl (qt_indexN tok rfl rfl rfl rfl (fun _ => by omega)) (by decide +kernel) rfl rfl rfl ?_ | refine prn_gK rfl rfl rfl (qt_indexN tok rfl rfl rfl rfl (fun _ => by omega)) (by decide +kernel) rfl rfl rfl ?_ | refine prn_gF rfl rfl rfl (by decide +kernel) rfl rfl rfl ?_ | refine prn_g rfl rfl rfl (qt_indexN tok rfl rfl rfl rfl (fun _ => by omega)) (by decide +kernel) rfl rfl rfl rfl rfl ?_ | refine prn_q rfl (qt_ldM tok rfl hc0 rfl) (by decide +kernel) rfl rfl rfl ?_ | refine prn_gK rfl rfl rfl (qt_ldM tok rfl hc0 rfl) (by decide +kernel) rfl rfl rfl ?_ | refine prn_gF rfl rfl rfl (by decide +kernel) rfl rfl rfl ?_ | refine prn_g rfl rfl rfl (qt_ldM tok rfl hc0 rfl) (by decide +kernel) rfl rfl rfl rfl rfl ?_ | refine prn_q rfl (qt_ldM0 tok rfl hc0 rfl) (by decide +kernel) rfl rfl rfl ?_ | refine prn_gK rfl rfl rfl (qt_ldM0 tok rfl hc0 rfl) (by decide +kernel) rfl rfl rfl ?_ | refine prn_gF rfl rfl rfl (by decide +kernel) rfl rfl rfl ?_ | refine prn_g rfl rfl rfl (qt_ldM0 tok rfl hc0 rfl) (by decide +kernel) rfl rfl rfl rfl rfl ?_ | refine prn_q rfl (qt_ldM tok rfl hc rfl) (by decide +kernel) rfl rfl rfl ?_ | refine prn_gK rfl rfl rfl (qt_ldM tok rfl hc rfl) (by decide +kernel) rfl rfl rfl ?_ | refine prn_gF rfl rfl rfl (by decide +kernel) rfl rfl rfl ?_ | refine prn_g rfl rfl rfl (qt_ldM tok rfl hc rfl) (by decide +kernel) rfl rfl rfl rfl rfl ?_ | refine prn_q rfl (qt_ldM0 tok rfl hc rfl) (by decide +kernel) rfl rfl rfl ?_ | refine prn_gK rfl rfl rfl (qt_ldM0 tok rfl hc rfl) (by decide +kernel) rfl rfl rfl ?_ | refine prn_gF rfl rfl rfl (by decide +kernel) rfl rfl rfl ?_ | refine prn_g rfl rfl rfl (qt_ldM0 tok rfl hc rfl) (by decide +kernel) rfl rfl rfl rfl rfl ?_ | refine prn_g rfl rfl rfl (qt_callF rfl (fun _ => ref06May_ok _ _ _ hmd)) (by decide +kernel) rfl rfl rfl rfl rfl ?_)
      have hpos : decide (((i + 1 : Nat) : Int) > 0) = true := decide_eq_true (by omega)
      refine run_cond rfl (fun h => ?_) (fun h => ?_)
      · repeat (first | refine zz ?_ | refine zx fun _ => ?_)
        refine run_ret hC (rs := [.tmp 4]) rfl (resT rfl resN) (fun _ h => h.drop) ⟨?_, rfl, rfl⟩
        rw [hpos, Bool.true_and] at h
        rw [if_pos (show badM2 t false m0.org m = true from h)] at hgo
        rw [← hgo]; rfl
      · rw [hpos, Bool.true_and] at h
        repeat (first | refine zz ?_ | refine zx fun _ => ?_)
        exact run_sub' (hnext _ _ _ ⟨hlt, hnx h, rfl, rfl, rfl⟩) ⟨lk_succ rfl (by omega), by rw [hv]; rfl, rfl, trivial⟩
  · have hge : j = s.len := by simp at h; omega
    rw [hge, List.drop_eq_nil_of_le (by omega)] at hgo
    repeat (first | refine zz ?_ | refine zx fun _ => ?_)
    exact run_ret hC (rs := [.tmp 4]) rfl (resT rfl resN) (fun _ h => h.drop) ⟨by rw [← hgo]; rfl, rfl, rfl⟩
end Go.Proofs.YtkjljcgbnikmkaaGreatDoor
namespace Go.Proofs.YtkjljcgbnikmkaaGreatDoor
open Go.Chi
set_option maxRecDepth 10000
set_option maxRecDepth 10000 in
set_option maxHeartbeats 4000000 in
theorem dsameMb_ok (M : Mem) (L : HL) (s u : SMb) (hs : MbOk M s) (hu : MbOk M u) : TrQ Tryz.prog 72 [s.v, u.v] M L (.bool (decide (s.xs = u.xs))) := by
  have hx1 := hs.len
  have hy1 := hu.len
  have hlt6 := hs.2
  refine Tr.intro 26 Tryz.func72 rfl rfl Tryz.call72 rfl ?_
  intro C hC hro
  repeat (first | refine zz ?_ | refine zx fun _ => ?_)
  refine run_cond rfl (fun h => ?_) (fun h => ?_)
  · repeat (first | refine zz ?_ | refine zx fun _ => ?_)
    refine run_ret hC (rs := [.tmp 4]) rfl (resT rfl resN) (fun _ h => h) ⟨?_, rfl, rfl⟩
    rw [decide_eq_false (fun e => by
      have : s.len = u.len := by rw [← hx1, ← hy1, e]
      simp [this] at h)]
    rfl
  have hll : s.len = u.len := by simp at h; omega
  repeat (first | refine zz ?_ | refine zx fun _ => ?_)
  refine run_loopN (fun j σ1 M1 L1 => j ≤ s.len ∧ M = M1 ∧ L = L1 ∧ s.xs.take j = u.xs.take j ∧ σ1 = [(5, .int .i64 (j : Int)), (0, s.v), (1, u.v)]) s.len [(5, .int .i64 ((0 : Nat) : Int)), (0, s.v), (1, u.v)] ?_ ⟨Nat.zero_le _, rfl, rfl, by simp, rfl⟩ (fun j _ _ _ h => h.1) ?_
  · exact ⟨rfl, rfl, rfl, trivial⟩
  rintro j _ _ _ ⟨hj, rfl, rfl, hpre, rfl⟩ hnext
  repeat (first | refine zz ?_ | refine zx fun _ => ?_)
  refine run_cond rfl (fun h => ?_) (fun h => ?_)
  · have hlt : j < s.len := by simpa using h
    have hlt2 : j < u.len := by omega
    obtain ⟨b, off, m, ha, hm, hc⟩ := SMb.at_ hs.1 hlt
    obtain ⟨b2, off2, m2, ha2, hm2, hc2⟩ := SMb.at_ hu.1 hlt2
    have hv : s.v = .slice (some ⟨b, off, none⟩) s.len s.cap := by rw [← ha]; rfl
    have hv2 : u.v = .slice (some ⟨b2, off2, none⟩) u.len u.cap := by rw [← ha2]; rfl
    refine run_as 0 (.slice (some ⟨b, off, none⟩) s.len s.cap) rfl hv ?_
    refine run_as 1 (.slice (some ⟨b2, off2, none⟩) u.len u.cap) rfl hv2 ?_
    repeat (first | refine zz ?_ | refine zx fun _ => ?_ | refine dd ?_ | refine dz ?_ | refine dx fun _ => ?_ | refine prn_q rfl (qt_indexN tok rfl rfl rfl rfl (fun _ => by omega)) (by decide +kernel) rfl rfl rfl ?_ | refine prn_g rfl rfl rfl (qt_indexN tok rfl rfl rfl rfl (fun _ => by omega)) (by decide +kernel) rfl rfl rfl rfl rfl ?_ | refine prn_q rfl (qt_ldM tok rfl hc rfl) (by decide +kernel) rfl rfl rfl ?_ | refine prn_g rfl rfl rfl (qt_ldM tok rfl hc rfl) (by decide +kernel) rfl rfl rfl rfl rfl ?_ | refine prn_q rfl (qt_ldM0 tok rfl hc rfl) (by decide +kernel) rfl rfl rfl ?_ | refine prn_g rfl rfl rfl (qt_ldM0 tok rfl hc rfl) (by decide +kernel) rfl rfl rfl rfl rfl ?_ | refine prn_q rfl (qt_ldM tok rfl hc2 rfl) (by decide +kernel) rfl rfl rfl ?_ | refine prn_g rfl rfl rfl (qt_ldM tok rfl hc2 rfl) (by decide +kernel) rfl rfl rfl rfl rfl ?_ | refine prn_q rfl (qt_ldM0 tok rfl hc2 rfl) (by decide +kernel) rfl rfl rfl ?_ | refine prn_g rfl rfl rfl (qt_ldM0 tok rfl hc2 rfl) (by decide +kernel) rfl rfl rfl rfl rfl ?_)
    refine run_cond rfl (fun h => ?_) (fun h => ?_)
    · repeat (first | refine zz ?_ | refine zx fun _ => ?_)
      refine run_ret hC (rs := [.tmp 4]) rfl (resT rfl resN) (fun _ h => h) ⟨?_, rfl, rfl⟩
      rw [mbEq_eq] at h
      rw [decide_eq_false (fun e => by
        rw [e, hm2] at hm
        have := Option.some.inj hm
        simp [this] at h)]
      rfl
    · rw [mbEq_eq] at h
      have hmm : m = m2 := by simpa using h
      repeat (first | refine zz ?_ | refine zx fun _ => ?_)
      exact run_sub' (hnext _ _ _ ⟨hlt, rfl, rfl, by rw [take_snoc hm, take_snoc hm2, hpre, hmm], rfl⟩) ⟨lk_succ rfl (by omega), by rw [hv]; rfl, by rw [hv2]; rfl, trivial⟩
  · have hge : j = s.len := by simp at h; omega
    rw [hge, List.take_of_length_le (by omega), List.take_of_length_le (by omega)] at hpre
    repeat (first | refine zz ?_ | refine zx fun _ => ?_)
    refine run_ret hC (rs := [.tmp 4]) rfl (resT rfl resN) (fun _ h => h) ⟨?_, rfl, rfl⟩
    rw [decide_eq_true hpre]; rfl
set_option maxRecDepth 10000 in
set_option maxHeartbeats 4000000 in
theorem dsameSt_ok (M : Mem) (L : HL) (s u : SStr) (hs : StOk M s) (hu : StOk M u) : TrQ Tryz.prog 73 [s.v, u.v] M L (.bool (decide (s.xs = u.xs))) := by
  have hx1 := hs.len
  have hy1 := hu.len
  have hlt6 := hs.2
  refine Tr.intro 26 Tryz.func73 rfl rfl Tryz.call73 rfl ?_
  intro C hC hro
  repeat (first | refine zz ?_ | refine zx fun _ => ?_)
  refine run_cond rfl (fun h => ?_) (fun h => ?_)
  · repeat (first | refine zz ?_ | refine zx fun _ => ?_)
    refine run_ret hC (rs := [.tmp 4]) rfl (resT rfl resN) (fun _ h => h) ⟨?_, rfl, rfl⟩
    rw [decide_eq_false (fun e => by
      have : s.len = u.len := by rw [← hx1, ← hy1, e]
      simp [this] at h)]
    rfl
  have hll : s.len = u.len := by simp at h; omega
  repeat (first | refine zz ?_ | refine zx fun _ => ?_)
  refine run_loopN (fun j σ1 M1 L1 => j ≤ s.len ∧ M = M1 ∧ L = L1 ∧ s.xs.take j = u.xs.take j ∧ σ1 = [(5, .int .i64 (j : Int)), (0, s.v), (1, u.v)]) s.len [(5, .int .i64 ((0 : Nat) : Int)), (0, s.v), (1, u.v)] ?_ ⟨Nat.zero_le _, rfl, rfl, by simp, rfl⟩ (fun j _ _ _ h => h.1) ?_
  · exact ⟨rfl, rfl, rfl, trivial⟩
  rintro j _ _ _ ⟨hj, rfl, rfl, hpre, rfl⟩ hnext
  repeat (first | refine zz ?_ | refine zx fun _ => ?_)
  refine run_cond rfl (fun h => ?_) (fun h => ?_)
  · have hlt : j < s.len := by simpa using h
    have hlt2 : j < u.len := by omega
    obtain ⟨b, off, m, ha, hm, hc⟩ := SStr.at_ hs.1 hlt
    obtain ⟨b2, off2, m2, ha2, hm2, hc2⟩ := SStr.at_ hu.1 hlt2
    have hv : s.v = .slice (some ⟨b, off, none⟩) s.len s.cap := by rw [← ha]; rfl
    have hv2 : u.v = .slice (some ⟨b2, off2, none⟩) u.len u.cap := by rw [← ha2]; rfl
    refine run_as 0 (.slice (some ⟨b, off, none⟩) s.len s.cap) rfl hv ?_
    refine run_as 1 (.slice (some ⟨b2, off2, none⟩) u.len u.cap) rfl hv2 ?_
    repeat (first | refine zz ?_ | refine zx fun _ => ?_ | refine dd ?_ | refine dz ?_ | refine dx fun _ => ?_ | refine prn_q rfl (qt_indexN tok rfl rfl rfl rfl (fun _ => by omega)) (by decide +kernel) rfl rfl rfl ?_ | refine prn_g rfl rfl rfl (qt_indexN tok rfl rfl rfl rfl (fun _ => by omega)) (by decide +kernel) rfl rfl rfl rfl rfl ?_ | refine prn_q rfl (qt_ldM tok rfl hc rfl) (by decide +kernel) rfl rfl rfl ?_ | refine prn_g rfl rfl rfl (qt_ldM tok rfl hc rfl) (by decide +kernel) rfl rfl rfl rfl rfl ?_ | refine prn_q rfl (qt_ldM0 tok rfl hc rfl) (by decide +kernel) rfl rfl rfl ?_ | refine prn_g rfl rfl rfl (qt_ldM0 tok rfl hc rfl) (by decide +kernel) rfl rfl rfl rfl rfl ?_ | refine prn_q rfl (qt_ldM tok rfl hc2 rfl) (by decide +kernel) rfl rfl rfl ?_ | refine prn_g rfl rfl rfl (qt_ldM tok rfl hc2 rfl) (by decide +kernel) rfl rfl rfl rfl rfl ?_ | refine prn_q rfl (qt_ldM0 tok rfl hc2 rfl) (by decide +kernel) rfl rfl rfl ?_ | refine prn_g rfl rfl rfl (qt_ldM0 tok rfl hc2 rfl) (by decide +kernel) rfl rfl rfl rfl rfl ?_)
    refine run_cond rfl (fun h => ?_) (fun h => ?_)
    · repeat (first | refine zz ?_ | refine zx fun _ => ?_)
      refine run_ret hC (rs := [.tmp 4]) rfl (resT rfl resN) (fun _ h => h) ⟨?_, rfl, rfl⟩
      rw [stEq_eq] at h
      rw [decide_eq_false (fun e => by
        rw [e, hm2] at hm
        have := Option.some.inj hm
        simp [this] at h)]
      rfl
    · rw [stEq_eq] at h
      have hmm : m = m2 := by simpa using h
      repeat (first | refine zz ?_ | refine zx fun _ => ?_)
      exact run_sub' (hnext _ _ _ ⟨hlt, rfl, rfl, by rw [take_snoc hm, take_snoc hm2, hpre, hmm], rfl⟩) ⟨lk_succ rfl (by omega), by rw [hv]; rfl, by rw [hv2]; rfl, trivial⟩
  · have hge : j = s.len := by simp at h; omega
    rw [hge, List.take_of_length_le (by omega), List.take_of_length_le (by omega)] at hpre
    repeat (first | refine zz ?_ | refine zx fun _ => ?_)
    refine run_ret hC (rs := [.tmp 4]) rfl (resT rfl resN) (fun _ h => h) ⟨?_, rfl, rfl⟩
    rw [decide_eq_true hpre]; rfl
set_option maxHeartbeats 4000000 in
theorem dsame_ok (M : Mem) (L : HL) (a b : Rc) (ha : MbOk M a.mem) (hb : MbOk M b.mem) (ha2 : StOk M a.tags) (hb2 : StOk M b.tags) : TrQ Tryz.prog 41 [.agg ⟨rcC a⟩, .agg ⟨rcC b⟩] M L (.bool (sameRc a b)) := by
  refine Tr.intro 59 Tryz.func41 rfl rfl Tryz.call41 rfl ?_
  intro C hC hro
  repeat (first | refine zz ?_ | refine zx fun _ => ?_ | refine runL_g rfl rfl (qt_callF rfl (fun _ => dsameMb_ok _ _ a.mem b.mem ha hb)) rfl rfl rfl rfl rfl ?_ | refine runL_g rfl rfl (qt_callF rfl (fun _ => dsameSt_ok _ _ a.tags b.tags ha2 hb2)) rfl rfl rfl rfl rfl ?_)
  exact run_ret hC (rs := [.tmp 4]) rfl (resT rfl resN) (fun _ h => h.drop.drop) ⟨rfl, rfl, rfl⟩
def bareD (r : Rc) : Rc :=
  if r.kind = 1 then ⟨r.kind, r.epoch, ⟨0, 0, 0⟩, false, 0, nilM, nilS, ⟨#[]⟩⟩ else
  if r.kind = 2 then ⟨r.kind, 0, r.txn, r.yes, r.auditor, r.mem, nilS, r.body⟩ else
  if r.kind = 3 ∧ r.yes = true then ⟨r.kind, 0, r.txn, true, r.auditor, r.mem, r.tags, ⟨#[]⟩⟩ else
  if r.kind = 3 ∨ r.kind = 4 then ⟨r.kind, 0, r.txn, r.yes, 0, nilM, nilS, ⟨#[]⟩⟩ else
  ⟨0, 0, ⟨0, 0, 0⟩, false, 0, nilM, nilS, ⟨#[]⟩⟩
theorem bareD_mem (M : Mem) (r : Rc) (h : MbOk M r.mem) : MbOk M (bareD r).mem := by
  unfold bareD
  repeat' split
  all_goals first | exact h | exact MbOk.nil _
theorem bareD_tags (M : Mem) (r : Rc) (h : StOk M r.tags) : StOk M (bareD r).tags := by
  unfold bareD
  repeat' split
  all_goals first | exact h | exact StOk.nil _
set_option maxHeartbeats 8000000 in
theorem dbare_ok (M : Mem) (L : HL) (r : Rc) : TrQ Tryz.prog 104 [.agg ⟨rcC r⟩] M L (.agg ⟨rcC (bareD r)⟩) := by
  refine Tr.intro 56 Tryz.func104 rfl rfl Tryz.call104 rfl ?_
  intro C hC hro
  repeat (first | refine zz ?_ | refine zx fun _ => ?_)
  refine run_cond rfl (fun h => ?_) (fun h => ?_)
  · have h1 : r.kind = 1 := by simpa using h
    repeat (first | refine zz ?_ | refine zx fun _ => ?_)
    exact run_ret hC (rs := [.cell 2 35]) rfl (rl tok rfl resN) (fun _ h => h.drop.drop) ⟨by rw [bareD, if_pos h1]; rfl, rfl, rfl⟩
  have h1 : ¬ r.kind = 1 := by simpa using h
  repeat (first | refine zz ?_ | refine zx fun _ => ?_)
  refine run_cond rfl (fun h => ?_) (fun h => ?_)
  · have h2 : r.kind = 2 := by simpa using h
    repeat (first | refine zz ?_ | refine zx fun _ => ?_)
    exact run_ret hC (rs := [.cell 2 35]) rfl (rl tok rfl resN) (fun _ h => h.drop.drop) ⟨by rw [bareD, if_neg h1, if_pos h2]; rfl, rfl, rfl⟩
  have h2 : ¬ r.kind = 2 := by simpa using h
  repeat (first | refine zz ?_ | refine zx fun _ => ?_)
  refine run_cut (fun σ' M' L' => ∃ b1 b2, σ' = [(27, .bool (decide (r.kind = 3 ∨ r.kind = 4))), (1, .pointer (some ⟨b1, 0, none⟩)), (2, .pointer (some ⟨b2, 0, none⟩))] ∧ M = M' ∧ L' = (b2, .cells ⟨rcC ⟨0, 0, ⟨0, 0, 0⟩, false, 0, nilM, nilS, ⟨#[]⟩⟩⟩ 35 (0, 0)) :: (b1, .cells ⟨rcC r⟩ 35 (0, 0)) :: L) ?_ ?_
  rotate_left
  · intro hnext
    refine run_cond rfl (fun h => ?_) (fun h => ?_)
    · have h3 : r.kind = 3 := by simpa using h
      refine run_skip ?_
      exact run_sub' (hnext _ _ _ ⟨_, _, rfl, rfl, rfl⟩) ⟨by rw [decide_eq_true (.inl h3), ← h]; rfl, rfl, rfl, trivial⟩
    · have h3 : ¬ r.kind = 3 := by simpa using h
      (refine run_region ?_; (repeat (first | refine zq ?_ | refine zx fun _ => ?_)); refine runL_nil ?_)
      exact run_sub' (hnext _ _ _ ⟨_, _, rfl, rfl, rfl⟩) ⟨by
        have e4 : decide (r.kind = 3 ∨ r.kind = 4) = (r.kind == 4) := by rw [Bool.eq_iff_iff]; simp [h3]
        rw [e4]; rfl, rfl, rfl, trivial⟩
  rintro _ _ _ ⟨b1, b2, rfl, rfl, rfl⟩
  refine run_cond rfl (fun h => ?_) (fun h => ?_)
  · have h34 : r.kind = 3 ∨ r.kind = 4 := of_decide_eq_true h
    repeat (first | refine zz ?_ | refine zx fun _ => ?_)
    refine run_cond rfl (fun h => ?_) (fun h => ?_)
    · have h3 : r.kind = 3 ∧ r.yes = true := by simpa using h
      repeat (first | refine zz ?_ | refine zx fun _ => ?_)
      exact run_ret hC (rs := [.cell 2 35]) rfl (rl tok rfl resN) (fun _ h => h.drop.drop) ⟨by rw [bareD, if_neg h1, if_neg h2, if_pos h3]; rfl, rfl, rfl⟩
    · have h3 : ¬ (r.kind = 3 ∧ r.yes = true) := by simpa using h
      repeat (first | refine zz ?_ | refine zx fun _ => ?_)
      exact run_ret hC (rs := [.cell 2 35]) rfl (rl tok rfl resN) (fun _ h => h.drop.drop) ⟨by rw [bareD, if_neg h1, if_neg h2, if_neg h3, if_pos h34]; rfl, rfl, rfl⟩
  · have h34 : ¬ (r.kind = 3 ∨ r.kind = 4) := of_decide_eq_false h
    have h3 : ¬ (r.kind = 3 ∧ r.yes = true) := fun e => h34 (.inl e.1)
    repeat (first | refine zz ?_ | refine zx fun _ => ?_)
    exact run_ret hC (rs := [.cell 2 35]) rfl (rl tok rfl resN) (fun _ h => h.drop.drop) ⟨by rw [bareD, if_neg h1, if_neg h2, if_neg h3, if_neg h34]; rfl, rfl, rfl⟩
end Go.Proofs.YtkjljcgbnikmkaaGreatDoor
