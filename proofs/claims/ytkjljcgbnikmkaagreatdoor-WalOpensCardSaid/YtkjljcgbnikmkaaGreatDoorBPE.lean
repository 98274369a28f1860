import Derived.Test.YtkjljcgbnikmkaaGreatDoorBPA
import Derived.Test.YtkjljcgbnikmkaaGreatDoorBPD
namespace Go.Proofs.YtkjljcgbnikmkaaGreatDoor
open Go.Chi
set_option maxRecDepth 10000
theorem qt_minI {P : Program} {ro : Option Nat} {σ : Env} {δ : Den} {cur : Path} {M : Mem} {L : HL} {d : Option Nat} {ty : TypeId} {pos : String} {aft : Array Edge} {g : Option (Nat × Bool)} {x y : Operand} {tys : Array TypeId} {k k' : IntKind} {m n : Int} (hx : ev σ δ cur x = some (.int k m)) (hy : ev σ δ cur y = some (.int k' n)) :
    Qt P ro ⟨d, .call ⟨.builtin .min, #[x, y], tys⟩, ty, pos, aft, g⟩ σ δ cur M L (.int k (if n < m then n else m)) :=
  qt_of_run (semAt_of (by intro c e; cases e)) fun a w hs hcur hp => by
    simp [execOp, resolve, invoke, builtin, Builtin.min_, Builtin.min2, ev_sound hs hcur hx, ev_sound hs hcur hy]
def leftD (x : Ds) : Int := if x.armed = true then (x.left : Int) else -1
def goodB (x : Ds) : ByteArray := x.s.extract 0 x.syn
def looseB (x : Ds) : ByteArray := x.s.extract x.syn x.s.size
abbrev odB (b : Nat) (x : Ds) : Nat × Obj := (b, .cells ⟨[iv x.room, .int .i64 (leftD x), .string (goodB x), .string (looseB x), .bool x.down]⟩ 61 (0, 0))
def OdK (r : Int × Ds) (M : Mem) (b : Nat) (L : HL) (v : Value) (M' : Mem) (L' : HL) : Prop := M = M' ∧ v = .int .i64 r.1 ∧ L' = odB b r.2 :: L
theorem good_size {x : Ds} (hx : DsOk x) : (goodB x).size = x.syn := ext0_size hx.syn
theorem good_loose {x : Ds} (hx : DsOk x) : goodB x ++ looseB x = x.s := (ext_split x.s hx.syn).symm
theorem loose_size {x : Ds} (hx : DsOk x) : (looseB x).size = x.s.size - x.syn := by
  have h1 := congrArg ByteArray.size (good_loose hx)
  rw [app_size, good_size hx] at h1
  omega
theorem left0 (x : Ds) : (leftD x == 0) = decide (x.armed = true ∧ x.left = 0) := by
  unfold leftD
  cases h : x.armed
  · simp
  · simp only [if_true, true_and]
    exact ds_bool_ne
def stopX (x : Ds) : Ds := if x.armed = true ∧ x.left = 0 then { x with down := true } else x
theorem odStops_ok (M : Mem) (L : HL) (b : Nat) (x : Ds) : Tr Tryz.prog 54 [pt b] M (odB b x :: L) (fun v M' L' => M = M' ∧ v = .bool (decide (x.armed = true ∧ x.left = 0)) ∧ L' = odB b (stopX x) :: L) := by
  refine Tr.intro 22 Tryz.func54 rfl rfl Tryz.call54 rfl ?_
  intro C hC hro
  repeat (first | refine zz ?_ | refine zx fun _ => ?_)
  refine run_ret hC (rs := [.tmp 2]) rfl (resT rfl resN) (fun _ h => h) ⟨rfl, ?_, ?_⟩
  · rw [← left0]; rfl
  · have h0 := left0 x
    unfold stopX
    split
    · rename_i h
      rw [decide_eq_true h] at h0
      show (b, Obj.cells ⟨[iv x.room, .int .i64 (leftD x), .string (goodB x), .string (looseB x), .bool (x.down || (leftD x == 0))]⟩ _ _) :: L = _
      rw [h0, Bool.or_true]; rfl
    · rename_i h
      rw [decide_eq_false h] at h0
      show (b, Obj.cells ⟨[iv x.room, .int .i64 (leftD x), .string (goodB x), .string (looseB x), .bool (x.down || (leftD x == 0))]⟩ _ _) :: L = _
      rw [h0, Bool.or_false]
def doneX (x : Ds) : Ds := if x.armed = true then { x with left := x.left - 1 } else x
theorem odDone_ok (M : Mem) (L : HL) (b : Nat) (x : Ds) (h : ¬ (x.armed = true ∧ x.left = 0)) (hl : x.left < 9223372036854775808) : Tr Tryz.prog 55 [pt b] M (odB b x :: L) (fun v M' L' => M = M' ∧ v = .int .i64 0 ∧ L' = odB b (doneX x) :: L) := by
  refine Tr.intro 15 Tryz.func55 rfl rfl Tryz.call55 rfl ?_
  intro C hC hro
  repeat (first | refine zz ?_ | refine zx fun _ => ?_)
  refine run_cond (t := decide (leftD x > 0)) rfl (fun hc => ?_) (fun hc => ?_)
  · have ha : x.armed = true := by
      unfold leftD at hc
      split at hc
      · assumption
      · simp at hc
    have hne : x.left ≠ 0 := fun e => h ⟨ha, e⟩
    have e1 : IntKind.i64.wrap (leftD x - 1) = leftD (doneX x) := by
      unfold leftD doneX
      rw [if_pos ha, if_pos ha, if_pos ha, show (x.left : Int) - 1 = ((x.left - 1 : Nat) : Int) by omega]
      exact wrap64_nat (by omega)
    repeat (first | refine zz ?_ | refine zx fun _ => ?_)
    refine run_ret hC (rs := [.tmp 2]) rfl (resT rfl resN) (fun _ h => h) ⟨rfl, rfl, ?_⟩
    show (b, Obj.cells ⟨[iv x.room, .int .i64 (IntKind.i64.wrap (leftD x - 1)), .string (goodB x), .string (looseB x), .bool x.down]⟩ _ _) :: L = _
    rw [e1]
    unfold doneX
    rw [if_pos ha]; rfl
  · have ha : x.armed ≠ true := by
      intro ha
      unfold leftD at hc
      rw [if_pos ha] at hc
      simp at hc
      exact h ⟨ha, hc⟩
    repeat (first | refine zz ?_ | refine zx fun _ => ?_)
    refine run_ret hC (rs := [.tmp 2]) rfl (resT rfl resN) (fun _ h => h) ⟨rfl, rfl, ?_⟩
    unfold doneX
    rw [if_neg ha]
theorem wr_stop {x : Ds} {r : Int × Ds} (h : x.armed = true ∧ x.left = 0) : wr x r = (140, stopX x) := by
  unfold wr stopX; rw [if_pos h, if_pos h]
theorem stopX_no {x : Ds} (h : ¬ (x.armed = true ∧ x.left = 0)) : stopX x = x := by unfold stopX; rw [if_neg h]
theorem wr_done {x y : Ds} (h : ¬ (x.armed = true ∧ x.left = 0)) : wr x (0, y) = (0, doneX y) := by
  unfold wr doneX
  rw [if_neg h]
  split
  · rename_i h1; rw [if_pos h1.2]
  · rename_i h1; rw [if_neg (fun e => h1 ⟨rfl, e⟩)]
theorem wr_err {x y : Ds} {e : Int} (he : e ≠ 0) (h : ¬ (x.armed = true ∧ x.left = 0)) : wr x (e, y) = (e, y) := by
  unfold wr
  rw [if_neg h, if_neg (fun h1 => he h1.1)]
set_option maxHeartbeats 4000000 in
theorem odApp_ok (M : Mem) (L : HL) (b : Nat) (x : Ds) (t : ByteArray) (hx : DsOk x) (hl : x.left < 9223372036854775808) (ht : t.size < 1000000000) : Tr Tryz.prog 29 [pt b, .string t] M (odB b x :: L) (OdK (dApp x t) M b L) := by
  have h1 := hx.syn
  have h2 := hx.fit
  have h3 := hx.room
  have hg := good_size hx
  have hls := loose_size hx
  refine Tr.intro 37 Tryz.func29 rfl rfl Tryz.call29 rfl ?_
  intro C hC hro
  repeat (first | refine zz ?_ | refine zx fun _ => ?_ | (refine ro (st_callF rfl (fun _ => odStops_ok _ _ b x)) ?_; rintro _ _ _ ⟨rfl, rfl, rfl⟩))
  refine run_cond rfl (fun h => ?_) (fun h => ?_)
  · have h0 := of_decide_eq_true h
    repeat (first | refine zz ?_ | refine zx fun _ => ?_)
    exact run_ret hC (rs := [.tmp 4]) rfl (resT rfl resN) (fun _ h => h) ⟨rfl, by unfold dApp; rw [wr_stop h0]; rfl, by unfold dApp; rw [wr_stop h0]⟩
  have h0 := of_decide_eq_false h
  rw [stopX_no h0]
  have e1 : IntKind.i64.wrap (IntKind.i64.wrap ((x.room : Int) - ((goodB x).size : Int)) - ((looseB x).size : Int)) = ((x.room - x.s.size : Nat) : Int) := by
    rw [hg, hls, show (x.room : Int) - (x.syn : Int) = ((x.room - x.syn : Nat) : Int) by omega, wrap64_nat (by omega), show ((x.room - x.syn : Nat) : Int) - ((x.s.size - x.syn : Nat) : Int) = ((x.room - x.s.size : Nat) : Int) by omega]
    exact wrap64_nat (by omega)
  repeat (first | refine zz ?_ | refine zx fun _ => ?_ | refine dd ?_ | refine dz ?_ | refine dx fun _ => ?_)
  refine run_cond rfl (fun h => ?_) (fun h => ?_)
  · have hc : x.room - x.s.size < t.size := by rw [e1] at h; simp at h; omega
    repeat (first | refine zz ?_ | refine zx fun _ => ?_)
    exact run_ret hC (rs := [.tmp 4]) rfl (resT rfl resN) (fun _ h => h) ⟨rfl, by unfold dApp; rw [if_pos hc, wr_err (by decide) h0]; rfl, by unfold dApp; rw [if_pos hc, wr_err (by decide) h0]⟩
  · have hc : ¬ x.room - x.s.size < t.size := by rw [e1] at h; simp at h; omega
    have hst : (odB b { x with s := x.s ++ t } : Nat × Obj) = (b, .cells ⟨[iv x.room, .int .i64 (leftD x), .string (goodB x), .string (looseB x ++ t), .bool x.down]⟩ 61 (0, 0)) := by
      have e2 : goodB { x with s := x.s ++ t } = goodB x := by
        show (x.s ++ t).extract 0 x.syn = x.s.extract 0 x.syn
        exact cut_left h1
      have e3 : looseB { x with s := x.s ++ t } = looseB x ++ t := by
        show (x.s ++ t).extract x.syn (x.s ++ t).size = x.s.extract x.syn x.s.size ++ t
        apply ba_ext
        rw [ba_extract, ba_app, ba_app, ba_extract, List.take_of_length_le (by rw [List.length_append, ba_len, ba_len, app_size]; exact Nat.le_refl _), List.take_of_length_le (by rw [ba_len]; exact Nat.le_refl _), List.drop_append_of_le_length (by rw [ba_len]; exact h1)]
      rw [odB, e2, e3]; rfl
    repeat (first | refine zz ?_ | refine zx fun _ => ?_ | refine rq (qt_concat rfl rfl (by omega)) ?_)
    refine runL_mem (L' := odB b { x with s := x.s ++ t } :: L) (fun _ h => by rw [hst]; exact h) ?_
    repeat (first | refine zz ?_ | refine zx fun _ => ?_ | (refine ro (st_callF rfl (fun _ => odDone_ok _ _ b { x with s := x.s ++ t } h0 hl)) ?_; rintro _ _ _ ⟨rfl, rfl, rfl⟩))
    exact run_ret hC (rs := [.tmp 4]) rfl (resT rfl resN) (fun _ h => h) ⟨rfl, by unfold dApp; rw [if_neg hc, wr_done h0]; rfl, by unfold dApp; rw [if_neg hc, wr_done h0]⟩
set_option maxHeartbeats 4000000 in
theorem odCut_ok (M : Mem) (L : HL) (b : Nat) (x : Ds) (n : Nat) (hx : DsOk x) (hl : x.left < 9223372036854775808) : Tr Tryz.prog 45 [pt b, iv n] M (odB b x :: L) (OdK (dCut x n) M b L) := by
  have h1 := hx.syn
  have h2 := hx.fit
  have h3 := hx.room
  have hg := good_size hx
  have hls := loose_size hx
  have hgl := good_loose hx
  refine Tr.intro 36 Tryz.func45 rfl rfl Tryz.call45 rfl ?_
  intro C hC hro
  repeat (first | refine zz ?_ | refine zx fun _ => ?_ | (refine ro (st_callF rfl (fun _ => odStops_ok _ _ b x)) ?_; rintro _ _ _ ⟨rfl, rfl, rfl⟩))
  refine run_cond rfl (fun h => ?_) (fun h => ?_)
  · have h0 := of_decide_eq_true h
    repeat (first | refine zz ?_ | refine zx fun _ => ?_)
    exact run_ret hC (rs := [.tmp 4]) rfl (resT rfl resN) (fun _ h => h) ⟨rfl, by unfold dCut; rw [wr_stop h0]; rfl, by unfold dCut; rw [wr_stop h0]⟩
  have h0 := of_decide_eq_false h
  rw [stopX_no h0]
  repeat (first | refine zz ?_ | refine zx fun _ => ?_ | refine dd ?_ | refine dz ?_ | refine dx fun _ => ?_ | refine pq rfl (Qt.as (v' := .string x.s) (qt_concat rfl rfl (by omega)) (congrArg Value.string hgl)) ?_)
  refine run_cond (t := decide ((n : Int) < 0) || decide ((n : Int) > (x.s.size : Int))) rfl (fun h => ?_) (fun h => ?_)
  · have hc : x.s.size < n := by simp at h; omega
    repeat (first | refine zz ?_ | refine zx fun _ => ?_)
    exact run_ret hC (rs := [.tmp 4]) rfl (resT rfl resN) (fun _ h => h) ⟨rfl, by unfold dCut; rw [if_pos hc, wr_err (by decide) h0]; rfl, by unfold dCut; rw [if_pos hc, wr_err (by decide) h0]⟩
  · have hc : ¬ x.s.size < n := by simp at h; omega
    have hst : (odB b { x with s := x.s.extract 0 n, syn := n } : Nat × Obj) = (b, .cells ⟨[iv x.room, .int .i64 (leftD x), .string (x.s.extract 0 n), .string ⟨#[]⟩, .bool x.down]⟩ 61 (0, 0)) := by
      have hn : (x.s.extract 0 n).size = n := ext0_size (by omega)
      have e2 : goodB { x with s := x.s.extract 0 n, syn := n } = x.s.extract 0 n := by
        show (x.s.extract 0 n).extract 0 n = _
        have := ext_all (x.s.extract 0 n)
        rwa [hn] at this
      have e3 : looseB { x with s := x.s.extract 0 n, syn := n } = ⟨#[]⟩ := by
        show (x.s.extract 0 n).extract n (x.s.extract 0 n).size = _
        rw [hn]
        apply ba_ext
        rw [ba_extract]
        simp
      rw [odB, e2, e3]; rfl
    repeat (first | refine zz ?_ | refine zx fun _ => ?_ | refine rq (qt_strHi (n := n) tok rfl rfl rfl (fun _ => by omega)) ?_)
    refine runL_mem (L' := odB b { x with s := x.s.extract 0 n, syn := n } :: L) (fun _ h => by rw [hst]; exact h) ?_
    repeat (first | refine zz ?_ | refine zx fun _ => ?_ | (refine ro (st_callF rfl (fun _ => odDone_ok _ _ b { x with s := x.s.extract 0 n, syn := n } h0 hl)) ?_; rintro _ _ _ ⟨rfl, rfl, rfl⟩))
    exact run_ret hC (rs := [.tmp 4]) rfl (resT rfl resN) (fun _ h => h) ⟨rfl, by unfold dCut; rw [if_neg hc, wr_done h0]; rfl, by unfold dCut; rw [if_neg hc, wr_done h0]⟩
theorem sync_st {x : Ds} : goodB { x with syn := x.s.size } = x.s ∧ looseB { x with syn := x.s.size } = ⟨#[]⟩ := by
  refine ⟨ext_all _, ?_⟩
  show x.s.extract x.s.size x.s.size = _
  apply ba_ext
  rw [ba_extract]
  simp
theorem odSync_ok (M : Mem) (L : HL) (b : Nat) (x : Ds) (hx : DsOk x) (hl : x.left < 9223372036854775808) : Tr Tryz.prog 22 [pt b] M (odB b x :: L) (OdK (dSync x) M b L) := by
  have h1 := hx.syn
  have h2 := hx.fit
  have h3 := hx.room
  have hg := good_size hx
  have hls := loose_size hx
  have hgl := good_loose hx
  refine Tr.intro 22 Tryz.func22 rfl rfl Tryz.call22 rfl ?_
  intro C hC hro
  repeat (first | refine zz ?_ | refine zx fun _ => ?_ | (refine ro (st_callF rfl (fun _ => odStops_ok _ _ b x)) ?_; rintro _ _ _ ⟨rfl, rfl, rfl⟩))
  refine run_cond rfl (fun h => ?_) (fun h => ?_)
  · have h0 := of_decide_eq_true h
    repeat (first | refine zz ?_ | refine zx fun _ => ?_)
    exact run_ret hC (rs := [.tmp 2]) rfl (resT rfl resN) (fun _ h => h) ⟨rfl, by unfold dSync; rw [wr_stop h0]; rfl, by unfold dSync; rw [wr_stop h0]⟩
  have h0 := of_decide_eq_false h
  rw [stopX_no h0]
  repeat (first | refine zz ?_ | refine zx fun _ => ?_ | refine dd ?_ | refine dz ?_ | refine dx fun _ => ?_ | refine pq rfl (Qt.as (v' := .string x.s) (qt_concat rfl rfl (by omega)) (congrArg Value.string hgl)) ?_)
  refine runL_mem (L' := odB b { x with syn := x.s.size } :: L) (fun _ h => by rw [odB, sync_st.1, sync_st.2]; exact h) ?_
  repeat (first | refine zz ?_ | refine zx fun _ => ?_ | (refine ro (st_callF rfl (fun _ => odDone_ok _ _ b { x with syn := x.s.size } h0 hl)) ?_; rintro _ _ _ ⟨rfl, rfl, rfl⟩))
  exact run_ret hC (rs := [.tmp 2]) rfl (resT rfl resN) (fun _ h => h) ⟨rfl, by unfold dSync; rw [wr_done h0]; rfl, by unfold dSync; rw [wr_done h0]⟩
theorem odArm_ok (M : Mem) (L : HL) (b : Nat) (n : Int) (x : Ds) : Tr Tryz.prog 23 [pt b, .int .i64 n] M (odB b x :: L) (fun _ M' L' => M = M' ∧ L' = odB b (dArm x n) :: L) := by
  refine Tr.intro 9 Tryz.func23 rfl rfl Tryz.call23 rfl ?_
  intro C hC hro
  repeat (first | refine zz ?_ | refine zx fun _ => ?_ | refine rq (Qt.as (v' := iv n.toNat) (qt_max2 rfl rfl) (congrArg (Value.int .i64) (max0 n))) ?_)
  exact run_end hC rfl (vs := []) trivial (fun _ h => h) ⟨rfl, rfl⟩
theorem min_nat (k m : Nat) : (if (m : Int) < (k : Int) then (m : Int) else (k : Int)) = ((min k m : Nat) : Int) := by split <;> omega
theorem odCrash_ok (M : Mem) (L : HL) (b : Nat) (n : Int) (x : Ds) (hx : DsOk x) : Tr Tryz.prog 24 [pt b, .int .i64 n] M (odB b x :: L) (fun _ M' L' => M = M' ∧ L' = odB b (dCrash x n) :: L) := by
  have h1 := hx.syn
  have h2 := hx.fit
  have h3 := hx.room
  have hg := good_size hx
  have hls := loose_size hx
  have hgl := good_loose hx
  refine Tr.intro 34 Tryz.func24 rfl rfl Tryz.call24 rfl ?_
  intro C hC hro
  repeat (first | refine zz ?_ | refine zx fun _ => ?_ | refine dd ?_ | refine dz ?_ | refine dx fun _ => ?_ | refine pq rfl (Qt.as (v' := iv n.toNat) (qt_max2 rfl rfl) (congrArg (Value.int .i64) (max0 n))) ?_ | refine pq rfl (Qt.as (v' := iv (min n.toNat (looseB x).size)) (qt_minI rfl rfl) (congrArg (Value.int .i64) (min_nat _ _))) ?_ | refine pq rfl (qt_strHi (n := min n.toNat (looseB x).size) tok rfl rfl rfl (fun _ => by omega)) ?_ | refine pq rfl (qt_concat rfl rfl (by rw [ext0_size (by omega)]; omega)) ?_)
  refine run_end hC rfl (vs := []) trivial (fun _ h => h) ⟨rfl, ?_⟩
  have hn : crashN x n = x.syn + min n.toNat (looseB x).size := by
    rw [hls]; unfold crashN
    split <;> omega
  have hk := crashN_le hx n
  have hks : (x.s.extract 0 (crashN x n)).size = crashN x n := ext0_size hk
  have e1 : goodB (dCrash x n) = goodB x ++ (looseB x).extract 0 (min n.toNat (looseB x).size) := by
    show (x.s.extract 0 (crashN x n)).extract 0 (crashN x n) = _
    have : (x.s.extract 0 (crashN x n)).extract 0 (crashN x n) = x.s.extract 0 (crashN x n) := by
      have := ext_all (x.s.extract 0 (crashN x n))
      rwa [hks] at this
    rw [this]
    conv => lhs; rw [← hgl]
    rw [cut_right (by rw [hg]; omega), hg]
    congr 2
    omega
  have e2 : looseB (dCrash x n) = ⟨#[]⟩ := by
    show (x.s.extract 0 (crashN x n)).extract (crashN x n) (x.s.extract 0 (crashN x n)).size = _
    rw [hks]
    apply ba_ext
    rw [ba_extract]
    simp
  rw [odB, e1, e2]; rfl
theorem odNew_ok (M : Mem) (L : HL) (room : Nat) (h : room ≤ 1048576) : Tr Tryz.prog 18 [iv room] M L (fun v M' L' => M = M' ∧ ∃ b, v = pt b ∧ L' = odB b (ds0 room) :: L) := by
  refine Tr.intro 12 Tryz.func18 rfl rfl Tryz.call18 rfl ?_
  intro C hC hro
  repeat (first | refine zz ?_ | refine zx fun _ => ?_)
  refine run_cond (t := decide ((room : Int) < 0) || decide ((room : Int) > 1048576)) rfl (fun h => ?_) (fun _ => ?_)
  · exfalso; simp at h; omega
  repeat (first | refine zz ?_ | refine zx fun _ => ?_)
  rename_i b
  exact run_ret hC (rs := [.tmp 2]) rfl (resT rfl resN) (fun _ h => h) ⟨rfl, b, rfl, rfl⟩
end Go.Proofs.YtkjljcgbnikmkaaGreatDoor
namespace Go.Proofs.YtkjljcgbnikmkaaGreatDoor
open Go.Chi
set_option maxRecDepth 10000
theorem synW_of {S : Wl} {ts : List ByteArray} (h : EsOk ts S.es) {j : Nat} (hj : j ≤ ts.length) (h1 : ∀ i, i < j → placeB ts (i + 1) ≤ S.x.syn) (h2 : j < ts.length → ¬ placeB ts (j + 1) ≤ S.x.syn) : synW S = j := by
  have hge : j ≤ synW S := firstN_ge (by rw [h.len]; exact hj) fun i y hi hy => by
    have hl : i < ts.length := by omega
    rw [(h.at_ i _ y (List.getElem?_eq_getElem hl) hy).2, decide_eq_true_eq]
    exact h1 i hi
  by_cases hlt : j < ts.length
  · have hy : S.es[j]? = some (S.es[j]'(by rw [h.len]; exact hlt)) := List.getElem?_eq_getElem _
    exact firstN_stop hy (by
      rw [(h.at_ j _ _ (List.getElem?_eq_getElem hlt) hy).2]
      exact decide_eq_false (h2 hlt)) fun i y hi hy => by
        have hl : i < ts.length := by omega
        rw [(h.at_ i _ y (List.getElem?_eq_getElem hl) hy).2, decide_eq_true_eq]
        exact h1 i hi
  · have := firstN_le (fun y : Re × Nat => decide (y.2 ≤ S.x.syn)) S.es
    rw [h.len] at this
    have e : synW S = firstN (fun y : Re × Nat => decide (y.2 ≤ S.x.syn)) S.es := rfl
    omega
set_option maxHeartbeats 8000000 in
theorem rlSynced_ok (M : Mem) (L N : HL) (b bo : Nat) (v : Value) (rs : List Rc) (ts : List ByteArray) (S : Wl) (hm : rlB b bo v ∈ L) (hmo : odB bo S.x ∈ L) (hN : ∀ p ∈ N, p ∈ L) (hO : OS 35 10 v rs.length (rs.map rcC).flatten N) (h : RsOf M rs ts) (hsh : AllSh ts) (hx : DsOk S.x) (hes : EsOk ts S.es) :
    Tr Tryz.prog 47 [pt b] M L (fun v' M' L' => M.le M' ∧ L' = L ∧ v' = iv (synW S)) := by
  have hg := good_size hx
  have hlt6 := h.lt
  have hlen := h.len
  refine Tr.intro 30 Tryz.func47 rfl rfl Tryz.call47 rfl ?_
  intro C hC hro
  repeat (first | refine zz ?_ | refine zx fun _ => ?_ | (refine ro (st_callF rfl (fun _ => rlTexts_ok _ _ N b bo v rs ts hm hN hO h)) ?_; rintro _ M1 L1 ⟨hM1, hL1, s, rfl, hs, hsx⟩; obtain rfl : L = L1 := hL1.symm) | (refine ro (st_callF rfl (fun _ => refEnds_ok _ _ s hs (by rw [hsx]; exact hsh))) ?_; rintro _ M2 L2 ⟨hM2, hL2, ea, ec, rfl, hse⟩; obtain rfl : L = L2 := hL2.symm))
  have hsl : s.len = ts.length := by rw [← hs.len, hsx]
  rw [hsx, hsl] at hse
  refine run_loopN (fun j σ1 M3 L1 => j ≤ ts.length ∧ M2 = M3 ∧ L = L1 ∧ (∀ i, i < j → placeB ts (i + 1) ≤ S.x.syn) ∧ σ1 = [(4, iv j), (3, .slice ea ts.length ec), (0, pt b)]) ts.length [(4, iv 0), (3, .slice ea ts.length ec), (0, pt b)] ?_ ⟨Nat.zero_le _, rfl, rfl, (fun i hi => absurd hi (Nat.not_lt_zero _)), rfl⟩ (fun j _ _ _ h => h.1) ?_
  · exact ⟨rfl, by rw [hsl]; rfl, rfl, trivial⟩
  rintro j _ _ _ ⟨hj, rfl, rfl, hall, rfl⟩ hnext
  have hM := Mem.le_trans hM1 hM2
  refine run_seq ?_
  refine run_seq ?_
  by_cases hlt : j < ts.length
  · obtain ⟨eb, eo, c, rfl, hc, _, hcells⟩ := hse.at_ hlt
    rw [fc_get hlt] at hc
    cases hc
    refine prn_start mixed ?_
    repeat (first | refine dq ?_ | refine dgK ?_)
    refine pr_as 12 (.bool true) rfl (by simp; omega) ?_
    repeat (first | refine dq ?_ | refine dgK ?_ | refine prn_gK rfl rfl rfl (qt_indexN tok rfl rfl rfl rfl (fun _ => hlt)) (by decide +kernel) rfl rfl rfl ?_ | refine prn_gK rfl rfl rfl (qt_ldM0 (cs := endC ts j) tok rfl hcells rfl) (by decide +kernel) rfl rfl rfl ?_ | refine prn_gK rfl rfl rfl (qt_ld tok rfl hm rfl) (by decide +kernel) rfl rfl rfl ?_ | refine prn_gK rfl rfl rfl (qt_ld tok rfl hmo rfl) (by decide +kernel) rfl rfl rfl ?_)
    refine prn_end (by decide +kernel) ?_
    refine run_cond rfl (fun hc => ?_) (fun hc => ?_)
    · have hle : placeB ts (j + 1) ≤ S.x.syn := by rw [hg] at hc; simp at hc; omega
      repeat (first | refine zz ?_ | refine zx fun _ => ?_)
      exact run_sub' (hnext _ _ _ ⟨hlt, rfl, rfl, fun i hi => by
        rcases Nat.lt_or_ge i j with h1 | h1
        · exact hall i h1
        · have : i = j := by omega
          subst this; exact hle, rfl⟩) ⟨lk_succ rfl (by omega), rfl, rfl, trivial⟩
    · have hgt : ¬ placeB ts (j + 1) ≤ S.x.syn := by rw [hg] at hc; simp at hc; omega
      rw [synW_of hes hj hall (fun _ => hgt)] at hC
      clear hnext
      repeat (first | refine zz ?_ | refine zx fun _ => ?_)
      exact run_ret hC (rs := [.tmp 2]) rfl (resT rfl resN) (fun _ h => h) ⟨hM, rfl, rfl⟩
  · have hje : j = ts.length := by omega
    refine prn_start mixed ?_
    repeat (first | refine dq ?_)
    refine pr_as 12 (.bool false) rfl (by simp; omega) ?_
    repeat (first | refine dq ?_ | refine dgF ?_)
    refine prn_end (by decide +kernel) ?_
    refine run_cond (t := false) rfl (fun h => by cases h) (fun _ => ?_)
    rw [synW_of hes hj hall (fun h => absurd h hlt)] at hC
    clear hnext
    repeat (first | refine zz ?_ | refine zx fun _ => ?_)
    exact run_ret hC (rs := [.tmp 2]) rfl (resT rfl resN) (fun _ h => h) ⟨hM, rfl, rfl⟩
end Go.Proofs.YtkjljcgbnikmkaaGreatDoor
namespace Go.Proofs.YtkjljcgbnikmkaaGreatDoor
open Go.Chi
set_option maxRecDepth 10000
theorem odAppP_ok (M : Mem) (L R : HL) (b : Nat) (x : Ds) (t : ByteArray) (hp : L.Perm (odB b x :: R)) (hx : DsOk x) (hl : x.left < 9223372036854775808) (ht : t.size < 1000000000) : Tr Tryz.prog 29 [pt b, .string t] M L (fun v M' L' => M = M' ∧ v = .int .i64 (dApp x t).1 ∧ L' = odB b (dApp x t).2 :: R) := by
  refine (odApp_ok M R b x t hx hl ht).perm hp ?_
  rintro v M' L' ⟨h1, h2, rfl⟩
  exact ⟨_, List.Perm.refl _, h1, h2, rfl⟩
set_option maxHeartbeats 16000000 in
theorem rlAppend_ok (M : Mem) (L0 N : HL) (b bo : Nat) (v : Value) (rs : List Rc) (ts : List ByteArray) (S : Wl) (r : Rc) (hO : OS 35 10 v rs.length (rs.map rcC).flatten N) (h : RsOf M rs ts) (hk : Keeps S ts) (hx : DsOk S.x) (hl : S.x.left < 9223372036854775808) (hr : RcOk M r) (hsh : Short r.re) :
    Tr Tryz.prog 21 [pt b, .agg ⟨rcC r⟩] M (rlB b bo v :: (N ++ (odB bo S.x :: L0))) (fun v' M' L' => M.le M' ∧ v' = .int .i64 (wApp S r).1 ∧ ∃ v2 N2 rs2, L' = rlB b bo v2 :: (N2 ++ (odB bo (wApp S r).2.x :: L0)) ∧ OS 35 10 v2 rs2.length (rs2.map rcC).flatten N2 ∧ (∀ q ∈ rs2, RcOk M' q) ∧ ((wApp S r).1 = 0 → rs2.map Rc.re = rs.map Rc.re ++ [r.re]) ∧ ((wApp S r).1 ≠ 0 → rs2 = rs)) := by
  obtain ⟨aw, cw, rfl⟩ := osV hO
  have hlt6 := h.lt
  have henc := fun L => dencode_ok M L r hr (lim_of hsh)
  refine Tr.intro 38 Tryz.func21 rfl rfl Tryz.call21 rfl ?_
  intro C hC hro
  repeat (first | refine zz ?_ | refine zx fun _ => ?_ | refine rq (qt_callF rfl (fun _ => henc _)) ?_)
  rename_i b3
  refine run_cond (t := (encE r).2 != 0) rfl (fun hc => ?_) (fun hc => ?_)
  · have h0 : (encE r).2 ≠ 0 := by simpa using hc
    have hw : wApp S r = ((encE r).2, S) := by unfold wApp encF; rw [if_pos h0]
    rw [hw] at hC
    repeat (first | refine zz ?_ | refine zx fun _ => ?_)
    exact run_ret hC (rs := [.tmp 4]) rfl (resT rfl resN) (fun _ h => h.drop) ⟨Mem.le_refl _, rfl, _, N, rs, rfl, hO, h.ok, fun e => absurd e h0, fun _ => rfl⟩
  have h0 : (encE r).2 = 0 := by simpa using hc
  have hs8 := encE_size h0
  have hhd : S.head.size = 32 := by rw [hk.hd]; exact headB_size _ _ rfl
  have hfs : (frB S.head (encE r).1).size < 1000000000 := by
    have h3 := numB_size (v := (encE r).1.size) (by omega)
    rw [frB_size, textB, app_size]; omega
  refine run_skip ?_
  refine run_seq ?_
  refine prn_start mixed ?_
  refine pr_q 0 (by decide +kernel) rfl (qt_pev tok rfl) rfl rfl rfl ?_
  refine pr_q 1 (by decide +kernel) rfl (qt_pev tok rfl) rfl rfl rfl ?_
  refine pr_q 2 (by decide +kernel) rfl (qt_pev tok rfl) rfl rfl rfl ?_
  refine pr_q 3 (by decide +kernel) rfl (ql tok rfl) rfl rfl rfl ?_
  refine pr_q 4 (by decide +kernel) rfl (qt_pev tok rfl) rfl rfl rfl ?_
  refine pr_q 6 (by decide +kernel) rfl (qt_pev tok rfl) rfl rfl rfl ?_
  refine pr_one 5 (by decide +kernel) (eff1 5 rfl (st_callF rfl (fun _ => rlHead_ok _ _ N b bo _ rs ts (by (repeat (first | with_reducible apply List.mem_cons_self | with_reducible assumption | with_reducible apply List.mem_cons_of_mem | with_reducible apply List.mem_append_right))) (fun p hp => by simp [hp]) hO h hk.sh)) (by decide +kernel) (qs := _) rfl rfl rfl rfl ?_)
  rintro _ M1 L1 ⟨hM1, hL1, rfl⟩
  subst hL1
  rw [← hk.hd]
  refine ⟨by (repeat (first | exact trivial | refine And.intro (pend_q rfl rfl rfl (qt_pev tok rfl)) ?_ | refine And.intro (pend_q rfl rfl rfl (ql tok rfl)) ?_)), ?_⟩
  refine pr_q 7 (by decide +kernel) rfl (qt_callF rfl (fun _ => refFrame_ok _ _ S.head (encE r).1 (by omega) (by omega))) rfl rfl rfl ?_
  refine pr_one 8 (by decide +kernel) (eff1 8 rfl (st_callF rfl (fun _ => odAppP_ok _ _ ((b3, .cells ⟨rcC r⟩ 35 (0, 0)) :: rlB b bo (.slice aw rs.length cw) :: (N ++ L0)) bo S.x _ (List.perm_middle (l₁ := _ :: _ :: N)) hx hl hfs)) (by decide +kernel) (qs := _) rfl rfl rfl rfl ?_)
  rintro _ _ _ ⟨rfl, rfl, rfl⟩
  refine ⟨by (repeat (first | exact trivial | refine And.intro (pend_q rfl rfl rfl (qt_pev tok rfl)) ?_ | refine And.intro (pend_q rfl rfl rfl (ql tok rfl)) ?_)), ?_⟩
  refine pr_q 9 (by decide +kernel) rfl (qt_pev tok rfl) rfl rfl rfl ?_
  refine pr_end (by decide +kernel) (by decide +kernel) ?_
  repeat (first | refine zz ?_ | refine zx fun _ => ?_)
  refine run_cond (t := (dApp S.x (frB S.head (encE r).1)).1 == 0) rfl (fun hc2 => ?_) (fun hc2 => ?_)
  · have hd : (dApp S.x (frB S.head (encE r).1)).1 = 0 := by simpa using hc2
    have hw : wApp S r = (0, ⟨S.es ++ [(r.re, (dApp S.x (frB S.head (encE r).1)).2.s.size)], nextB S.head (encE r).1, (dApp S.x (frB S.head (encE r).1)).2⟩) := by
      unfold wApp encF
      rw [if_neg (by simpa using h0), if_neg (by simpa using hd)]
    rw [hw] at hC
    generalize dApp S.x (frB S.head (encE r).1) = dd at hC hd
    obtain ⟨de, dx⟩ := dd
    simp only at hd
    subst hd
    refine prn_start mixed ?_
    refine pr_q 0 (by decide +kernel) rfl (qt_pev tok rfl) rfl rfl rfl ?_
    refine pr_q 1 (by decide +kernel) rfl (qt_pev tok rfl) rfl rfl rfl ?_
    refine pr_q 2 (by decide +kernel) rfl (qt_pev tok rfl) rfl rfl rfl ?_
    refine pr_q 3 (by decide +kernel) rfl (qt_pev tok rfl) rfl rfl rfl ?_
    refine pr_q 4 (by decide +kernel) rfl (ql tok rfl) rfl rfl rfl ?_
    refine pr_q 5 (by decide +kernel) rfl (qt_ld (v := .agg ⟨rcC r⟩) tok rfl (List.mem_cons_of_mem _ List.mem_cons_self) rfl) rfl rfl rfl ?_
    refine pr_one 6 (by decide +kernel) (eff1 6 rfl (st_callF rfl (fun _ => down_ok _ _ r (hr.le hM1))) (by decide +kernel) (qs := _) rfl rfl rfl rfl ?_)
    rintro _ M2 L2 ⟨hM2, hL2, r', rfl, hre', hro'⟩
    subst hL2
    refine ⟨by (repeat (first | exact trivial | refine And.intro (pend_q rfl rfl rfl (qt_pev tok rfl)) ?_ | refine And.intro (pend_q rfl rfl rfl (ql tok rfl)) ?_)), ?_⟩
    refine pr_one 7 (by decide +kernel) (eff1 7 rfl (st_buildSlice tok rfl rfl rfl rfl rfl rfl rfl) (by decide +kernel) (qs := _) rfl rfl rfl rfl ?_)
    rintro _ _ _ ⟨b9, rfl, rfl, rfl⟩
    refine ⟨by (repeat (first | exact trivial | refine And.intro (pend_q rfl rfl rfl (qt_pev tok rfl)) ?_ | refine And.intro (pend_q rfl rfl rfl (ql tok rfl)) ?_)), ?_⟩
    refine pr_one 8 (by decide +kernel) (eff1 8 rfl (st_append (news := rcC r') tok rfl rfl rfl rfl rfl rfl rfl rfl (pm4 _ _ _ _ N _) hO (.inr ⟨b9, 0, 1, rfl, cellsAll List.mem_cons_self, rfl⟩) (rcC_one _) (by omega) (by omega)) (by decide +kernel) (qs := _) rfl rfl rfl rfl ?_)
    rintro v5 _ _ ⟨N', rfl, rfl, hO'⟩
    obtain ⟨a5, c5, rfl⟩ := osV hO'
    refine ⟨by (repeat (first | exact trivial | refine And.intro (pend_q rfl rfl rfl (qt_pev tok rfl)) ?_ | refine And.intro (pend_q rfl rfl rfl (ql tok rfl)) ?_)), ?_⟩
    refine pr_q 9 (by decide +kernel) rfl (qt_pev tok rfl) rfl rfl rfl ?_
    refine pr_q 10 (by decide +kernel) rfl (qt_pev tok rfl) rfl rfl rfl ?_
    refine pr_one 11 (by decide +kernel) (eff0 11 rfl (sst tok rfl rfl rfl rfl rfl) (by decide +kernel) (qs := _) rfl ?_)
    rintro _ _ _ ⟨rfl, rfl, rfl⟩
    refine ⟨by (repeat (first | exact trivial | refine And.intro (pend_q rfl rfl rfl (qt_pev tok rfl)) ?_ | refine And.intro (pend_q rfl rfl rfl (ql tok rfl)) ?_)), ?_⟩
    refine pr_end (by decide +kernel) (by decide +kernel) ?_
    repeat (first | refine zz ?_ | refine zx fun _ => ?_)
    refine run_ret hC (rs := [.tmp 4]) rfl (resT rfl resN) (L' := rlB b bo (.slice a5 (rs.length + 1) c5) :: (N' ++ (odB bo dx :: L0))) (fun w hh => ?_) ⟨Mem.le_trans hM1 hM2, rfl, .slice a5 (rs.length + 1) c5, N', rs ++ [r'], rfl, ?_, ?_, fun _ => by rw [List.map_append, ← hre']; rfl, fun e => absurd rfl e⟩
    · exact (((hh.perm (pm4 _ _ _ _ N' _).symm).drop.perm (List.Perm.swap _ _ _)).drop).perm (pmD _ _ N' _).symm
    · rw [List.length_append, List.map_append, List.flatten_append]
      have e : ([r'].map rcC).flatten = rcC r' := by simp
      rw [e]; exact hO'
    · intro q hq
      rcases List.mem_append.1 hq with hq | hq
      · exact (h.ok q hq).le (Mem.le_trans hM1 hM2)
      · simp at hq; subst hq; exact hro'
  · have hd : (dApp S.x (frB S.head (encE r).1)).1 ≠ 0 := by simpa using hc2
    have hw : wApp S r = ((dApp S.x (frB S.head (encE r).1)).1, { S with x := (dApp S.x (frB S.head (encE r).1)).2 }) := by
      unfold wApp encF
      rw [if_neg (by simpa using h0), if_pos hd]
    rw [hw] at hC
    repeat (first | refine zz ?_ | refine zx fun _ => ?_)
    exact run_ret hC (rs := [.tmp 4]) rfl (resT rfl resN) (fun w h => ((h.perm (List.Perm.swap _ _ _)).drop).perm (pmD _ _ N _).symm) ⟨hM1, rfl, _, N, rs, rfl, hO, fun q hq => (h.ok q hq).le hM1, fun e => absurd e hd, fun _ => rfl⟩
end Go.Proofs.YtkjljcgbnikmkaaGreatDoor
namespace Go.Proofs.YtkjljcgbnikmkaaGreatDoor
open Go.Chi
set_option maxRecDepth 10000
def OnK (M : Mem) (ts : List ByteArray) (L : HL) (v : Value) (M' : Mem) (L' : HL) : Prop :=
  M.le M' ∧ (((∃ t ∈ ts, ∀ z, ¬ Dec t z) ∧ v = .tuple ⟨[.slice none 0 0, iv 0, .int .i64 7]⟩ ∧ L' = L) ∨
    ((∀ t ∈ ts, ∃ z, Dec t z) ∧ ∃ v2 N rs, v = .tuple ⟨[v2, iv (frsB firstB ts).size, .int .i64 0]⟩ ∧ L' = N ++ L ∧ OS 35 10 v2 rs.length (rs.map rcC).flatten N ∧ RsOf M' rs ts))
set_option maxHeartbeats 16000000 in
theorem refOn_ok (M : Mem) (L : HL) (s rest : ByteArray) (ts : List ByteArray) (h : Scn firstB s ts rest) (hs : s.size < 1000000) : Tr Tryz.prog 44 [.string s] M L (OnK M ts L) := by
  have htl := h.len
  refine Tr.intro 40 Tryz.func44 rfl rfl Tryz.call44 rfl ?_
  intro C hC hro
  repeat (first | refine zz ?_ | refine zx fun _ => ?_ | (refine ro (st_callF rfl (fun _ => refScan_ok _ _ s rest ts h (by omega))) ?_; rintro _ _ _ ⟨rfl, lv, Ns, rfl, rfl, hOs⟩))
  obtain ⟨la, lc, rfl⟩ := osV hOs
  refine run_loopN (fun j σ1 M1 L1 => j ≤ ts.length ∧ M.le M1 ∧ ∃ v2 N rs, rs.length = j ∧ (∀ r ∈ rs, RcOk M1 r) ∧ (∀ (i : Nat) (r : Rc) (t : ByteArray), rs[i]? = some r → ts[i]? = some t → Dec t r.re) ∧ OS 35 10 v2 j (rs.map rcC).flatten N ∧ L1 = N ++ (Ns ++ L) ∧ σ1 = [(9, iv j), (8, v2), (7, iv (frsB firstB ts).size), (5, .slice la ts.length lc)]) ts.length [(9, iv 0), (8, .slice none 0 0), (7, iv (frsB firstB ts).size), (5, .slice la ts.length lc)] ?_ ⟨Nat.zero_le _, Mem.le_refl _, _, [], [], rfl, (fun r hr => by cases hr), (fun i r t hr => by simp at hr), OS.nil _ _, rfl, rfl⟩ (fun j _ _ _ h => h.1) ?_
  · exact ⟨rfl, rfl, rfl, rfl, trivial⟩
  rintro j _ M1 _ ⟨hj, hM1, v2, N, rs, hrl, hro', hrd, hO, rfl, rfl⟩ hnext
  obtain ⟨a2, c2, rfl⟩ := osV hO
  repeat (first | refine zz ?_ | refine zx fun _ => ?_)
  refine run_cond rfl (fun h1 => ?_) (fun h1 => ?_)
  · have hlt : j < ts.length := by simpa using h1
    obtain ⟨t, ht⟩ : ∃ t, ts[j]? = some t := ⟨_, List.getElem?_eq_getElem hlt⟩
    have hts := h.sh t (List.mem_of_getElem? ht)
    obtain ⟨be, cape, cse, he, hNe, hseg⟩ := OS.mem (ls := ts.map stC) hOs (stC_all ts) (by rw [List.length_map]) (k := j) (c := stC t) (by rw [List.getElem?_map, ht]; rfl)
    cases he
    have hbe := List.mem_append_right N (List.mem_append_left L hNe)
    repeat (first | refine zz ?_ | refine zx fun _ => ?_ | refine rq (qt_indexN tok rfl rfl rfl rfl (fun _ => hlt)) ?_ | refine rq (qt_ldB0 (xs := stC t) (v := .string t) tok rfl hseg hbe rfl) ?_ | (refine ro (st_callF rfl (fun _ => ddecode_ok _ _ t (by omega))) ?_; rintro _ M2 L2 ⟨hM2, hL2, r, e, rfl, hrok, hrsh, hdd⟩; subst hL2))
    rename_i b10
    rcases hdd with ⟨rfl, hd⟩ | ⟨rfl, rfl, hnd⟩
    · refine run_cond rfl (fun h => by cases h) (fun _ => ?_)
      repeat (first | refine zz ?_ | refine zx fun _ => ?_)
      rename_i b9
      refine ro (st_append (news := rcC r) tok rfl rfl rfl rfl rfl rfl rfl rfl (pm2 _ _ N _) hO (.inr ⟨b9, 0, 1, rfl, cellsAll List.mem_cons_self, rfl⟩) (rcC_one _) (by omega) (by omega)) ?_
      rintro v5 _ _ ⟨N', rfl, rfl, hO'⟩
      obtain ⟨a5, c5, rfl⟩ := osV hO'
      refine runL_mem (L' := N' ++ (Ns ++ L)) (fun _ h => (((h.perm List.perm_middle).drop).perm List.perm_middle).drop) ?_
      repeat (first | refine zz ?_ | refine zx fun _ => ?_)
      refine run_sub' (hnext _ _ _ ⟨hlt, Mem.le_trans hM1 hM2, _, N', rs ++ [r], by simp [hrl], ?_, ?_, ?_, rfl, rfl⟩) ⟨lk_succ rfl (by omega), rfl, rfl, rfl, trivial⟩
      · intro q hq
        rcases List.mem_append.1 hq with hq | hq
        · exact (hro' q hq).le hM2
        · simp at hq; subst hq; exact hrok
      · intro i q u hq hu
        by_cases hi : i < rs.length
        · rw [List.getElem?_append_left hi] at hq; exact hrd i q u hq hu
        · rw [List.getElem?_append_right (by omega)] at hq
          have h1 := (List.getElem?_eq_some_iff.1 hq).1
          simp at h1
          have : i = j := by omega
          subst this
          rw [hrl, Nat.sub_self] at hq
          simp at hq; subst hq
          rw [ht] at hu; cases hu
          exact hd
      · rw [List.map_append, List.flatten_append]
        have e : ([r].map rcC).flatten = rcC r := by simp
        rw [e]; exact hO'
    · refine run_cond rfl (fun _ => ?_) (fun h => by cases h)
      repeat (first | refine zz ?_ | refine zx fun _ => ?_)
      exact run_ret hC (rs := [.tmp 2, .tmp 3, .tmp 4]) rfl (resT rfl (resT rfl (resT rfl resN))) (fun _ h => h.drop.dropAll.dropAll) ⟨Mem.le_trans hM1 hM2, .inl ⟨⟨t, List.mem_of_getElem? ht, hnd⟩, rfl, rfl⟩⟩
  have hje : j = ts.length := by simp at h1; omega
  subst hje
  repeat (first | refine zz ?_ | refine zx fun _ => ?_)
  exact run_ret hC (rs := [.tmp 2, .tmp 3, .tmp 4]) rfl (resT rfl (resT rfl (resT rfl resN))) (L' := N ++ L) (fun w hh => (hh.perm (List.perm_append_comm_assoc N Ns L)).dropAll) ⟨hM1, .inr ⟨fun t ht => by
    obtain ⟨i, hi, he⟩ := List.mem_iff_getElem.1 ht
    exact ⟨_, hrd i rs[i] t (List.getElem?_eq_getElem (by omega)) (by rw [List.getElem?_eq_getElem hi, he])⟩, .slice a2 ts.length c2, N, rs, rfl, rfl, by rw [hrl]; exact hO, ⟨hro', hrl, hrd, by omega⟩⟩⟩
end Go.Proofs.YtkjljcgbnikmkaaGreatDoor
namespace Go.Proofs.YtkjljcgbnikmkaaGreatDoor
open Go.Chi
set_option maxRecDepth 10000
theorem odCutP_ok (M : Mem) (L R : HL) (b : Nat) (x : Ds) (n : Nat) (hp : L.Perm (odB b x :: R)) (hx : DsOk x) (hl : x.left < 9223372036854775808) : Tr Tryz.prog 45 [pt b, iv n] M L (fun v M' L' => M = M' ∧ v = .int .i64 (dCut x n).1 ∧ L' = odB b (dCut x n).2 :: R) := by
  refine (odCut_ok M R b x n hx hl).perm hp ?_
  rintro v M' L' ⟨h1, h2, rfl⟩
  exact ⟨_, List.Perm.refl _, h1, h2, rfl⟩
def RpK (M : Mem) (bo : Nat) (x : Ds) (ts : List ByteArray) (L0 : HL) (v : Value) (M' : Mem) (L' : HL) : Prop :=
  M.le M' ∧ (((∃ t ∈ ts, ∀ z, ¬ Dec t z) ∧ v = .tuple ⟨[.pointer none, .int .i64 7]⟩ ∧ L' = odB bo x :: L0) ∨
    ((∀ t ∈ ts, ∃ z, Dec t z) ∧ (((openX x (frsB firstB ts).size).1 ≠ 0 ∧ v = .tuple ⟨[.pointer none, .int .i64 (openX x (frsB firstB ts).size).1]⟩ ∧ L' = odB bo (openX x (frsB firstB ts).size).2 :: L0) ∨
      ((openX x (frsB firstB ts).size).1 = 0 ∧ ∃ b v2 N rs, v = .tuple ⟨[pt b, .int .i64 0]⟩ ∧ L' = rlB b bo v2 :: (N ++ (odB bo (openX x (frsB firstB ts).size).2 :: L0)) ∧ OS 35 10 v2 rs.length (rs.map rcC).flatten N ∧ RsOf M' rs ts))))
set_option maxHeartbeats 16000000 in
theorem refOpen_ok (M : Mem) (L0 : HL) (bo : Nat) (x : Ds) (ts : List ByteArray) (rest : ByteArray) (hx : DsOk x) (hl : x.left < 9223372036854775808) (h : Scn firstB x.s ts rest) (hs : x.s.size < 1000000) :
    Tr Tryz.prog 19 [pt bo] M (odB bo x :: L0) (RpK M bo x ts L0) := by
  have h1 := hx.syn
  have hg := good_size hx
  have hls := loose_size hx
  have hgl := good_loose hx
  have hfs : (frsB firstB ts).size ≤ x.s.size := by
    have := congrArg ByteArray.size h.eq
    rw [app_size] at this; omega
  refine Tr.intro 40 Tryz.func19 rfl rfl Tryz.call19 rfl ?_
  intro C hC hro
  repeat (first | refine zz ?_ | refine zx fun _ => ?_ | refine dd ?_ | refine dz ?_ | refine dx fun _ => ?_ | refine pq rfl (Qt.as (v' := .string x.s) (qt_concat rfl rfl (by omega)) (congrArg Value.string hgl)) ?_)
  refine ro (st_callF rfl (fun _ => refOn_ok _ _ x.s rest ts h hs)) ?_
  rintro _ M1 L1 ⟨hM1, ⟨hbad, rfl, rfl⟩ | ⟨hall, v2, N, rs, rfl, rfl, hO, hrs⟩⟩
  · repeat (first | refine zz ?_ | refine zx fun _ => ?_)
    refine run_cond rfl (fun _ => ?_) (fun h => by cases h)
    repeat (first | refine zz ?_ | refine zx fun _ => ?_)
    exact run_ret hC (rs := [.tmp 2, .tmp 3]) rfl (resT rfl (resT rfl resN)) (fun _ h => h) ⟨hM1, .inl ⟨hbad, rfl, rfl⟩⟩
  obtain ⟨a2, c2, rfl⟩ := osV hO
  repeat (first | refine zz ?_ | refine zx fun _ => ?_)
  refine run_cond rfl (fun h => by cases h) (fun _ => ?_)
  repeat (first | refine zz ?_ | refine zx fun _ => ?_)
  refine run_cond rfl (fun hc => ?_) (fun hc => ?_)
  · have hlt : (frsB firstB ts).size < x.s.size := by simp at hc; omega
    have hox : openX x (frsB firstB ts).size = dCut x (frsB firstB ts).size := by rw [openX, if_pos hlt]
    unfold RpK at hC
    rw [hox] at hC
    repeat (first | refine zz ?_ | refine zx fun _ => ?_ | (refine ro (st_callF rfl (fun _ => odCutP_ok _ _ (N ++ L0) bo x _ (List.perm_middle (l₁ := N)) hx hl)) ?_; rintro _ _ _ ⟨rfl, rfl, rfl⟩))
    generalize dCut x (frsB firstB ts).size = dd at hC
    obtain ⟨e, x1⟩ := dd
    simp only at hC
    refine run_cond (t := (e != 0)) rfl (fun h2 => ?_) (fun h2 => ?_)
    · have h0 : e ≠ 0 := by simpa using h2
      repeat (first | refine zz ?_ | refine zx fun _ => ?_)
      exact run_ret hC (rs := [.tmp 2, .tmp 3]) rfl (resT rfl (resT rfl resN)) (L' := odB bo x1 :: L0) (fun w hh => (hh.perm (List.perm_middle (l₁ := N)).symm).dropAll) ⟨hM1, .inr ⟨hall, .inl ⟨h0, rfl, rfl⟩⟩⟩
    · have h0 : e = 0 := by simpa using h2
      subst h0
      repeat (first | refine zz ?_ | refine zx fun _ => ?_)
      rename_i b9
      exact run_ret hC (rs := [.tmp 2, .tmp 3]) rfl (resT rfl (resT rfl resN)) (L' := rlB b9 bo (.slice a2 rs.length c2) :: (N ++ (odB bo x1 :: L0))) (fun w hh => hh.perm (List.Perm.cons _ (List.perm_middle (l₁ := N)).symm)) ⟨hM1, .inr ⟨hall, .inr ⟨rfl, b9, _, N, rs, rfl, rfl, hO, hrs⟩⟩⟩
  · have hge : ¬ (frsB firstB ts).size < x.s.size := by simp at hc; omega
    have hox : openX x (frsB firstB ts).size = (0, x) := by rw [openX, if_neg hge]
    unfold RpK at hC
    rw [hox] at hC
    repeat (first | refine zz ?_ | refine zx fun _ => ?_)
    rename_i b9
    exact run_ret hC (rs := [.tmp 2, .tmp 3]) rfl (resT rfl (resT rfl resN)) (L' := rlB b9 bo (.slice a2 rs.length c2) :: (N ++ (odB bo x :: L0))) (fun w hh => hh) ⟨hM1, .inr ⟨hall, .inr ⟨rfl, b9, _, N, rs, rfl, rfl, hO, hrs⟩⟩⟩
end Go.Proofs.YtkjljcgbnikmkaaGreatDoor
namespace Go.Proofs.YtkjljcgbnikmkaaGreatDoor
open Go.Chi
set_option maxRecDepth 10000
section
variable {M : Mem} {L W R : HL} {bl bd : Nat} {S : Wl}
theorem wDiskP_ok (h : WlP M bl bd S W) (hp : L.Perm (W ++ R)) : TrQ Tryz.prog 46 [pt bl] M L (pt bd) := by
  obtain ⟨⟨es, v, N, a, cap, e, _⟩, _⟩ := h R
  rw [e] at hp
  exact trq_perm (wDisk_ok M _ bl bd v S.head) hp
theorem wHeadP_ok (h : WlP M bl bd S W) (hp : L.Perm (W ++ R)) : TrQ Tryz.prog 48 [pt bl] M L (.string S.head) := by
  obtain ⟨⟨es, v, N, a, cap, e, _⟩, _⟩ := h R
  rw [e] at hp
  exact trq_perm (wHead_ok M _ bl bd v S.head) hp
theorem wRoomP_ok (h : WlP M bl bd S W) (hp : L.Perm (W ++ R)) : TrQ Tryz.prog 50 [pt bl] M L (iv (S.x.room - S.x.s.size)) :=
  trq_perm (wRoom_ok M R _ bl bd S (h R)) hp
theorem dkBytesP_ok (h : WlP M bl bd S W) (hp : L.Perm (W ++ R)) : TrQ Tryz.prog 30 [pt bd] M L (.string S.x.s) := by
  obtain ⟨⟨es, v, N, a, cap, e, _, _, _, hv⟩, _⟩ := h R
  rw [e] at hp
  exact trq_perm (dkBytes_ok M _ bd S.x a cap hv) (hp.trans (pmD _ _ N R))
theorem dkSyncedP_ok (h : WlP M bl bd S W) (hp : L.Perm (W ++ R)) : TrQ Tryz.prog 31 [pt bd] M L (iv S.x.syn) := by
  obtain ⟨⟨es, v, N, a, cap, e, _⟩, _⟩ := h R
  rw [e] at hp
  exact trq_perm (dkSynced_ok M _ bd S.x a cap) (hp.trans (pmD _ _ N R))
theorem dkRoomP_ok (h : WlP M bl bd S W) (hp : L.Perm (W ++ R)) : TrQ Tryz.prog 51 [pt bd] M L (iv (S.x.room - S.x.s.size)) := by
  have hx := (h R).dk
  obtain ⟨⟨es, v, N, a, cap, e, _⟩, _⟩ := h R
  rw [e] at hp
  exact trq_perm (dkRoom_ok M _ bd S.x a cap hx) (hp.trans (pmD _ _ N R))
end
end Go.Proofs.YtkjljcgbnikmkaaGreatDoor
namespace Go.Proofs.YtkjljcgbnikmkaaGreatDoor
open Go.Chi
set_option maxRecDepth 10000
theorem RsOf.le {M M' : Mem} {rs : List Rc} {ts : List ByteArray} (hm : M.le M') (h : RsOf M rs ts) : RsOf M' rs ts := ⟨fun r hr => (h.ok r hr).le hm, h.len, h.dec, h.lt⟩
set_option maxHeartbeats 16000000 in
theorem alike_ok (M : Mem) (L W R N : HL) (bl bd b bo : Nat) (v : Value) (S : Wl) (ts : List ByteArray) (rs : List Rc) (hW : WlP M bl bd S W) (hp : L.Perm (W ++ R)) (hm : rlB b bo v ∈ L) (hmo : odB bo S.x ∈ L) (hN : ∀ p ∈ N, p ∈ L) (hO : OS 35 10 v rs.length (rs.map rcC).flatten N) (hrs : RsOf M rs ts) (hk : Keeps S ts) (hes : S.es.map Prod.fst = rs.map Rc.re) :
    Tr Tryz.prog 20 [pt bl, pt b] M L (fun v' M' L' => M.le M' ∧ L' = L ∧ v' = .bool true) := by
  have hx := (hW R).dk
  have hg := good_size hx
  have hls := loose_size hx
  have hgl := good_loose hx
  have hfit := hx.fit
  have hsyn := hx.syn
  have hroom := hx.room
  obtain ⟨aw, cw, rfl⟩ := osV hO
  refine Tr.intro 73 Tryz.func20 rfl rfl Tryz.call20 rfl ?_
  intro C hC hro
  repeat (first | refine zz ?_ | refine zx fun _ => ?_ | refine rq (qt_callF rfl (fun _ => wDiskP_ok hW hp)) ?_)
  refine prn_start mixed ?_
  repeat (first | refine dq ?_ | refine dgK ?_ | refine prn_gK rfl rfl rfl (qt_callF rfl (fun _ => dkBytesP_ok hW hp)) (by decide +kernel) rfl rfl rfl ?_ | refine prn_gK rfl rfl rfl (qt_ld tok rfl hm rfl) (by decide +kernel) rfl rfl rfl ?_ | refine prn_gK rfl rfl rfl (qt_ld tok rfl hmo rfl) (by decide +kernel) rfl rfl rfl ?_ | refine prn_gK rfl rfl rfl (Qt.as (v' := .string S.x.s) (qt_concat rfl rfl (by omega)) (congrArg Value.string hgl)) (by decide +kernel) rfl rfl rfl ?_)
  refine pr_as 30 (.bool true) rfl (by simp [bytes_beq]) ?_
  repeat (first | refine dq ?_ | refine dgK ?_ | refine prn_gK rfl rfl rfl (qt_callF rfl (fun _ => dkSyncedP_ok hW hp)) (by decide +kernel) rfl rfl rfl ?_ | refine prn_gK rfl rfl rfl (qt_ld tok rfl hm rfl) (by decide +kernel) rfl rfl rfl ?_ | refine prn_gK rfl rfl rfl (qt_ld tok rfl hmo rfl) (by decide +kernel) rfl rfl rfl ?_)
  refine pr_as 43 (.bool true) rfl (by rw [hg]; simp) ?_
  repeat (first | refine dq ?_ | refine dgK ?_)
  refine pr_gK 38 (by decide +kernel) rfl rfl rfl (qt_pev tok rfl) rfl rfl rfl ?_
  refine pr_gK 39 (by decide +kernel) rfl rfl rfl (qt_pev tok rfl) rfl rfl rfl ?_
  refine pr_gK 40 (by decide +kernel) rfl rfl rfl (qt_pev tok rfl) rfl rfl rfl ?_
  refine pr_gK 41 (by decide +kernel) rfl rfl rfl (qt_ld tok rfl hm rfl) rfl rfl rfl ?_
  refine pr_one 37 (by decide +kernel) (eff1g 37 rfl rfl (st_callF rfl (fun _ => wListP_ok _ _ bl bd S W R hW hp)) (by decide +kernel) (qs := _) rfl rfl rfl rfl ?_)
  rintro v45 M1 L1 ⟨hM1, hL1, hrc⟩
  subst hL1
  rw [hes] at hrc
  refine ⟨by (repeat (first | exact trivial | refine And.intro (pend_q rfl rfl rfl (qt_pev tok rfl)) ?_ | refine And.intro (pend_q rfl rfl rfl (ql tok rfl)) ?_ | refine And.intro (pend_gK rfl rfl rfl rfl rfl (qt_pev tok rfl)) ?_ | refine And.intro (pend_gK rfl rfl rfl rfl rfl (qt_ld tok rfl hm rfl)) ?_)), ?_⟩
  refine pr_gK 42 (by decide +kernel) rfl rfl rfl (qt_callF rfl (fun _ => dsameRows_ok _ _ N _ _ rs.length rs hrc hO hN rfl (fun r hr => (hrs.ok r hr).le hM1) (by have := hrs.lt; omega))) rfl rfl rfl ?_
  refine pr_q 43 (by decide +kernel) rfl (qt_pev tok rfl) rfl rfl rfl ?_
  refine pr_q 44 (by decide +kernel) rfl (qt_pev tok rfl) rfl rfl rfl ?_
  refine pr_gK 45 (by decide +kernel) rfl rfl rfl (qt_pev tok rfl) rfl rfl rfl ?_
  refine pr_gK 46 (by decide +kernel) rfl rfl rfl (qt_callF rfl (fun _ => wSyncedP_ok _ _ bl bd S W R (hW.le hM1) hp)) rfl rfl rfl ?_
  refine pr_gK 47 (by decide +kernel) rfl rfl rfl (qt_pev tok rfl) rfl rfl rfl ?_
  refine pr_one 48 (by decide +kernel) (eff1g 48 rfl rfl (st_callF rfl (fun _ => rlSynced_ok _ _ N b bo _ rs ts S hm hmo hN hO (hrs.le hM1) hk.sh hx hk.es)) (by decide +kernel) (qs := _) rfl rfl rfl rfl ?_)
  rintro _ M2 L2 ⟨hM2, hL2, rfl⟩
  subst hL2
  refine ⟨by (repeat (first | exact trivial | refine And.intro (pend_q rfl rfl rfl (qt_pev tok rfl)) ?_ | refine And.intro (pend_q rfl rfl rfl (ql tok rfl)) ?_ | refine And.intro (pend_gK rfl rfl rfl rfl rfl (qt_pev tok rfl)) ?_ | refine And.intro (pend_gK rfl rfl rfl rfl rfl (qt_ld tok rfl hm rfl)) ?_)), ?_⟩
  refine pr_gK 49 (by decide +kernel) rfl rfl rfl (qt_pev tok rfl) rfl rfl rfl ?_
  refine pr_q 50 (by decide +kernel) rfl (qt_pev tok rfl) rfl rfl rfl ?_
  refine pr_q 51 (by decide +kernel) rfl (qt_pev tok rfl) rfl rfl rfl ?_
  refine pr_as 59 (.bool true) rfl (by simp) ?_
  refine pr_gK 52 (by decide +kernel) rfl rfl rfl (qt_pev tok rfl) rfl rfl rfl ?_
  refine pr_gK 53 (by decide +kernel) rfl rfl rfl (qt_callF rfl (fun _ => wHeadP_ok (hW.le (Mem.le_trans hM1 hM2)) hp)) rfl rfl rfl ?_
  refine pr_gK 54 (by decide +kernel) rfl rfl rfl (qt_pev tok rfl) rfl rfl rfl ?_
  refine pr_one 55 (by decide +kernel) (eff1g 55 rfl rfl (st_callF rfl (fun _ => rlHead_ok _ _ N b bo _ rs ts hm hN hO (hrs.le (Mem.le_trans hM1 hM2)) hk.sh)) (by decide +kernel) (qs := _) rfl rfl rfl rfl ?_)
  rintro _ M3 L3 ⟨hM3, hL3, rfl⟩
  subst hL3
  refine ⟨by (repeat (first | exact trivial | refine And.intro (pend_q rfl rfl rfl (qt_pev tok rfl)) ?_ | refine And.intro (pend_q rfl rfl rfl (ql tok rfl)) ?_ | refine And.intro (pend_gK rfl rfl rfl rfl rfl (qt_pev tok rfl)) ?_ | refine And.intro (pend_gK rfl rfl rfl rfl rfl (qt_ld tok rfl hm rfl)) ?_)), ?_⟩
  refine pr_gK 56 (by decide +kernel) rfl rfl rfl (qt_pev tok rfl) rfl rfl rfl ?_
  refine pr_q 57 (by decide +kernel) rfl (qt_pev tok rfl) rfl rfl rfl ?_
  refine pr_q 58 (by decide +kernel) rfl (qt_pev tok rfl) rfl rfl rfl ?_
  refine pr_as 66 (.bool true) rfl (by rw [hk.hd]; simp [bytes_beq]) ?_
  have hM13 := Mem.le_trans hM1 (Mem.le_trans hM2 hM3)
  refine pr_gK 59 (by decide +kernel) rfl rfl rfl (qt_pev tok rfl) rfl rfl rfl ?_
  refine pr_gK 60 (by decide +kernel) rfl rfl rfl (qt_callF rfl (fun _ => wRoomP_ok (hW.le hM13) hp)) rfl rfl rfl ?_
  refine pr_gK 61 (by decide +kernel) rfl rfl rfl (qt_pev tok rfl) rfl rfl rfl ?_
  refine pr_gK 62 (by decide +kernel) rfl rfl rfl (qt_callF rfl (fun _ => dkRoomP_ok (hW.le hM13) hp)) rfl rfl rfl ?_
  refine pr_gK 63 (by decide +kernel) rfl rfl rfl (qt_pev tok rfl) rfl rfl rfl ?_
  refine pr_q 64 (by decide +kernel) rfl (qt_pev tok rfl) rfl rfl rfl ?_
  refine pr_q 65 (by decide +kernel) rfl (qt_pev tok rfl) rfl rfl rfl ?_
  refine pr_end (by decide +kernel) (by decide +kernel) ?_
  exact run_ret hC (rs := [.tmp 4]) rfl (resT rfl resN) (fun _ h => h) ⟨hM13, rfl, by simp [resVal]⟩
end Go.Proofs.YtkjljcgbnikmkaaGreatDoor
namespace Go.Proofs.YtkjljcgbnikmkaaGreatDoor
open Go.Chi
set_option maxRecDepth 10000
theorem nOpen_ok (M : Mem) (L : HL) : TrQ Tryz.prog 14 [.pointer none] M L (.tuple ⟨[.pointer none, .int .i64 1]⟩) := by
  refine Tr.intro 52 Tryz.func14 rfl rfl Tryz.call14 rfl ?_
  intro C hC hro
  repeat (first | refine zz ?_ | refine zx fun _ => ?_)
  refine run_cond rfl (fun _ => ?_) (fun h => by cases h)
  repeat (first | refine zz ?_ | refine zx fun _ => ?_)
  exact run_ret hC (rs := [.cell 2 25, .cell 3 38]) rfl (rl tok rfl (rl tok rfl resN)) (fun _ h => h.drop.drop) ⟨rfl, rfl, rfl⟩
theorem nApp_ok (M : Mem) (L : HL) (r : Rc) : TrQ Tryz.prog 9 [.pointer none, .agg ⟨rcC r⟩] M L (.int .i64 1) := by
  refine Tr.intro 63 Tryz.func9 rfl rfl Tryz.call9 rfl ?_
  intro C hC hro
  repeat (first | refine zz ?_ | refine zx fun _ => ?_)
  refine run_cond rfl (fun _ => ?_) (fun h => by cases h)
  repeat (first | refine zz ?_ | refine zx fun _ => ?_)
  exact run_ret hC (rs := [.tmp 4]) rfl (resT rfl resN) (fun _ h => h.drop) ⟨rfl, rfl, rfl⟩
theorem nSync_ok (M : Mem) (L : HL) : TrQ Tryz.prog 11 [.pointer none] M L (.int .i64 1) := by
  refine Tr.intro 11 Tryz.func11 rfl rfl Tryz.call11 rfl ?_
  intro C hC hro
  repeat (first | refine zz ?_ | refine zx fun _ => ?_)
  refine run_cond rfl (fun _ => ?_) (fun h => by cases h)
  repeat (first | refine zz ?_ | refine zx fun _ => ?_)
  exact run_ret hC (rs := [.tmp 2]) rfl (resT rfl resN) (fun _ h => h) ⟨rfl, rfl, rfl⟩
theorem nList_ok (M : Mem) (L : HL) : TrQ Tryz.prog 15 [.pointer none] M L (.slice none 0 0) := by
  refine Tr.intro 24 Tryz.func15 rfl rfl Tryz.call15 rfl ?_
  intro C hC hro
  repeat (first | refine zz ?_ | refine zx fun _ => ?_)
  refine run_cond rfl (fun _ => ?_) (fun h => by cases h)
  repeat (first | refine zz ?_ | refine zx fun _ => ?_)
  exact run_ret hC (rs := [.tmp 2]) rfl (resT rfl resN) (fun _ h => h) ⟨rfl, rfl, rfl⟩
theorem nSynced_ok (M : Mem) (L : HL) : TrQ Tryz.prog 17 [.pointer none] M L (.int .i64 0) := by
  refine Tr.intro 27 Tryz.func17 rfl rfl Tryz.call17 rfl ?_
  intro C hC hro
  repeat (first | refine zz ?_ | refine zx fun _ => ?_)
  refine run_cond rfl (fun _ => ?_) (fun h => by cases h)
  repeat (first | refine zz ?_ | refine zx fun _ => ?_)
  exact run_ret hC (rs := [.tmp 2]) rfl (resT rfl resN) (fun _ h => h) ⟨rfl, rfl, rfl⟩
theorem nRoom_ok (M : Mem) (L : HL) : TrQ Tryz.prog 50 [.pointer none] M L (.int .i64 0) := by
  refine Tr.intro 11 Tryz.func50 rfl rfl Tryz.call50 rfl ?_
  intro C hC hro
  repeat (first | refine zz ?_ | refine zx fun _ => ?_)
  refine run_cond rfl (fun _ => ?_) (fun h => by cases h)
  repeat (first | refine zz ?_ | refine zx fun _ => ?_)
  exact run_ret hC (rs := [.tmp 2]) rfl (resT rfl resN) (fun _ h => h) ⟨rfl, rfl, rfl⟩
theorem nHead_ok (M : Mem) (L : HL) : TrQ Tryz.prog 48 [.pointer none] M L (.string ⟨#[]⟩) := by
  refine Tr.intro 9 Tryz.func48 rfl rfl Tryz.call48 rfl ?_
  intro C hC hro
  repeat (first | refine zz ?_ | refine zx fun _ => ?_)
  refine run_cond rfl (fun _ => ?_) (fun h => by cases h)
  repeat (first | refine zz ?_ | refine zx fun _ => ?_)
  exact run_ret hC (rs := [.tmp 2]) rfl (resT rfl resN) (fun _ h => h) ⟨rfl, rfl, rfl⟩
theorem nDisk_ok (M : Mem) (L : HL) : TrQ Tryz.prog 46 [.pointer none] M L (.pointer none) := by
  refine Tr.intro 10 Tryz.func46 rfl rfl Tryz.call46 rfl ?_
  intro C hC hro
  repeat (first | refine zz ?_ | refine zx fun _ => ?_)
  refine run_cond rfl (fun _ => ?_) (fun h => by cases h)
  repeat (first | refine zz ?_ | refine zx fun _ => ?_)
  exact run_ret hC (rs := [.tmp 2]) rfl (resT rfl resN) (fun _ h => h) ⟨rfl, rfl, rfl⟩
set_option maxHeartbeats 8000000 in
theorem nothing_ok (M : Mem) (L : HL) : TrQ Tryz.prog 25 [] M L (.bool true) := by
  refine Tr.intro 47 Tryz.func25 rfl rfl Tryz.call25 rfl ?_
  intro C hC hro
  repeat (first | refine zz ?_ | refine zx fun _ => ?_ | refine rq (qt_callF rfl (fun _ => nOpen_ok _ _)) ?_ | refine rg rfl rfl (qt_callF rfl (fun _ => nApp_ok _ _ (rcEp 1))) ?_ | refine rg rfl rfl (qt_callF rfl (fun _ => nSync_ok _ _)) ?_ | refine rg rfl rfl (qt_callF rfl (fun _ => nList_ok _ _)) ?_ | refine rg rfl rfl (qt_callF rfl (fun _ => nSynced_ok _ _)) ?_ | refine rg rfl rfl (qt_callF rfl (fun _ => nRoom_ok _ _)) ?_ | refine rg rfl rfl (qt_callF rfl (fun _ => nHead_ok _ _)) ?_ | refine rg rfl rfl (qt_callF rfl (fun _ => nDisk_ok _ _)) ?_)
  exact run_ret hC (rs := [.tmp 0]) rfl (resT rfl resN) (fun _ h => h) ⟨by simp only [bytes_beq, decide_true]; rfl, rfl, rfl⟩
end Go.Proofs.YtkjljcgbnikmkaaGreatDoor
namespace Go.Proofs.YtkjljcgbnikmkaaGreatDoor
open Go.Chi
set_option maxRecDepth 10000
theorem wr_room {x : Ds} {r : Int × Ds} (h : r.2.room = x.room) : (wr x r).2.room = x.room := by
  unfold wr
  repeat' (first | exact h | rfl | split)
theorem dApp_room (x : Ds) (t : ByteArray) : (dApp x t).2.room = x.room := by
  unfold dApp
  split <;> exact wr_room rfl
theorem dSync_room (x : Ds) : (dSync x).2.room = x.room := wr_room rfl
theorem dCut_room (x : Ds) (n : Nat) : (dCut x n).2.room = x.room := by
  unfold dCut
  refine wr_room ?_
  split <;> rfl
theorem openX_room (x : Ds) (n : Nat) : (openX x n).2.room = x.room := by
  unfold openX
  split
  · exact dCut_room x n
  · rfl
theorem refOpenG_ok (M : Mem) (L0 : HL) (bo : Nat) (x : Ds) (ts : List ByteArray) (rest : ByteArray) (hx : DsOk x) (hl : x.left < 9223372036854775808) (h : Scn firstB x.s ts rest) (hs : x.s.size < 1000000) (hd : ∀ t ∈ ts, ∃ z, Dec t z) (h0 : (openX x (frsB firstB ts).size).1 = 0) :
    Tr Tryz.prog 19 [pt bo] M (odB bo x :: L0) (fun v M' L' => M.le M' ∧ ∃ b v2 N rs, v = .tuple ⟨[pt b, .int .i64 0]⟩ ∧ L' = rlB b bo v2 :: (N ++ (odB bo (openX x (frsB firstB ts).size).2 :: L0)) ∧ OS 35 10 v2 rs.length (rs.map rcC).flatten N ∧ RsOf M' rs ts) := by
  refine (refOpen_ok M L0 bo x ts rest hx hl h hs).mono ?_
  rintro v M' L' ⟨h1, ⟨⟨t, ht, h2⟩, _⟩ | ⟨_, ⟨h3, _⟩ | ⟨_, h5⟩⟩⟩
  · obtain ⟨z, hz⟩ := hd t ht
    exact absurd hz (h2 z)
  · exact absurd h0 h3
  · exact ⟨h1, h5⟩
theorem reopen2_ok (M : Mem) (L0 : HL) (bl bd : Nat) (S : Wl) (n : Int) (ts : List ByteArray) (a : Option Addr) (cap : Nat) (hk : KM M) (hx : DsOk S.x) (h : Keeps S ts) (hv : BV M a cap (dCrash S.x n).s) (hs : S.x.s.size < 1000000) :
    ∃ (m : Nat) (X : Ds), X.room = S.x.room ∧ Tr Tryz.prog 14 [pt bd] M (dkB bd (dCrash S.x n) a cap :: L0) (fun v M' L' => M.le M' ∧ ∃ bl S', v = .tuple ⟨[pt bl, .int .i64 0]⟩ ∧ Keeps S' (ts.take m) ∧ S'.x = X ∧ WlOwn M' bl bd S' L0 L') ∧
      ∀ (M : Mem) (L : HL) (bo : Nat), Tr Tryz.prog 19 [pt bo] M (odB bo (dCrash S.x n) :: L) (fun v M' L' => M.le M' ∧ ∃ b v2 N rs, v = .tuple ⟨[pt b, .int .i64 0]⟩ ∧ L' = rlB b bo v2 :: (N ++ (odB bo X :: L)) ∧ OS 35 10 v2 rs.length (rs.map rcC).flatten N ∧ RsOf M' rs (ts.take m)) := by
  obtain ⟨m, rest, h1, h2, h3, h4, _, h5, h6, h7⟩ := keeps_crash h hx n
  have hdx := crash_dk hx n
  have hsz : (dCrash S.x n).s.size < 1000000 := by
    have e : (dCrash S.x n).s.size = crashN S.x n := ext0_size (crashN_le hx n)
    have := crashN_le hx n
    omega
  refine ⟨m, (openX (dCrash S.x n) (frsB firstB (ts.take m)).size).2, openX_room _ _, (wOpenG_ok M L0 bd _ a cap _ rest hk hdx hv (by show (0 : Nat) < _; decide) h2 h3 h6).mono ?_, fun M L bo => refOpenG_ok M L bo _ _ rest hdx (by show (0 : Nat) < _; decide) h2 hsz h3 h6⟩
  rintro v M' L' ⟨hM, bl', es, rfl, he, hw⟩
  exact ⟨hM, bl', _, rfl, (h7 es he).1, rfl, hw⟩
end Go.Proofs.YtkjljcgbnikmkaaGreatDoor
namespace Go.Proofs.YtkjljcgbnikmkaaGreatDoor
open Go.Chi
theorem encE_re {M M' : Mem} {r r' : Rc} (hr : RcOk M r) (hr' : RcOk M' r') (h : r'.re = r.re) : encE r' = encE r := by
  have h1 := recE_re hr
  have h2 := recE_re hr'
  rw [h] at h2
  have e : recE r' = recE r := by
    rcases recE_02 r with a | a <;> rcases recE_02 r' with b | b
    · rw [a, b]
    · have := h2.2 (h1.1 a); omega
    · have := h1.2 (h2.1 b); omega
    · rw [a, b]
  unfold encE
  rw [e, h]
theorem wApp_re {M M' : Mem} {r r' : Rc} (S : Wl) (hr : RcOk M r) (hr' : RcOk M' r') (h : r'.re = r.re) : wApp S r' = wApp S r := by
  unfold wApp
  rw [encE_re hr hr' h, h]
end Go.Proofs.YtkjljcgbnikmkaaGreatDoor
namespace Go.Proofs.YtkjljcgbnikmkaaGreatDoor
open Go.Chi
set_option maxRecDepth 10000
section
open Classical
noncomputable def cn (a : Nat × Obj) (l : HL) : Nat := l.count a
noncomputable def cn1 (a x : Nat × Obj) : Nat := if x == a then 1 else 0
theorem cn_app (a : Nat × Obj) (l m : HL) : cn a (l ++ m) = cn a l + cn a m := by unfold cn; exact List.count_append
theorem cn_cons (a x : Nat × Obj) (l : HL) : cn a (x :: l) = cn1 a x + cn a l := by
  unfold cn cn1
  rw [List.count_cons, Nat.add_comm]
theorem pm_iff {l m : HL} : l.Perm m ↔ ∀ a, cn a l = cn a m := by unfold cn; exact List.perm_iff_count
end
theorem wApp_room (S : Wl) (r : Rc) : (wApp S r).2.x.room = S.x.room := by
  unfold wApp encF
  split
  · rfl
  · split
    · exact dApp_room _ _
    · exact dApp_room _ _
theorem rsOf_es {M : Mem} {rs : List Rc} {ts : List ByteArray} {es : List (Re × Nat)} (h : EsOk ts es) (he : es.map Prod.fst = rs.map Rc.re) (hr : ∀ r ∈ rs, RcOk M r) (hl : rs.length < 1000000) : RsOf M rs ts := by
  have hle : es.length = rs.length := by have := congrArg List.length he; simpa using this
  refine ⟨hr, by rw [← hle, h.len], fun j r t h1 h2 => ?_, hl⟩
  have hj : j < es.length := by rw [h.len]; exact (List.getElem?_eq_some_iff.1 h2).1
  have hp : es[j]? = some es[j] := List.getElem?_eq_getElem hj
  have h3 := congrArg (fun l => l[j]?) he
  simp only [List.getElem?_map, hp, h1, Option.map_some] at h3
  have := (h.at_ j t es[j] h2 hp).1
  rwa [Option.some.inj h3] at this
theorem es_of {M : Mem} {rs : List Rc} {ts : List ByteArray} {es : List (Re × Nat)} (h : EsOk ts es) (k : RsOf M rs ts) : es.map Prod.fst = rs.map Rc.re := by
  apply List.ext_getElem?
  intro j
  rw [List.getElem?_map, List.getElem?_map]
  by_cases hj : j < ts.length
  · have h1 : es[j]? = some (es[j]'(by rw [h.len]; exact hj)) := List.getElem?_eq_getElem _
    have h2 : rs[j]? = some (rs[j]'(by rw [k.len]; exact hj)) := List.getElem?_eq_getElem _
    have h3 : ts[j]? = some ts[j] := List.getElem?_eq_getElem _
    rw [h1, h2]
    show some _ = some _
    rw [((h.at_ j _ _ h3 h1).1).uniq (k.dec j _ _ h2 h3)]
  · rw [List.getElem?_eq_none (by rw [h.len]; omega), List.getElem?_eq_none (by rw [k.len]; omega)]
    rfl
structure Kq (M : Mem) (bl bd b bo : Nat) (v : Value) (W N : HL) (S : Wl) (ts : List ByteArray) (rs : List Rc) : Prop where
  w : WlP M bl bd S W
  k : Keeps S ts
  es : S.es.map Prod.fst = rs.map Rc.re
  ok : ∀ r ∈ rs, RcOk M r
  os : OS 35 10 v rs.length (rs.map rcC).flatten N
  room : S.x.room ≤ 16384
theorem Kq.size {M : Mem} {bl bd b bo : Nat} {v : Value} {W N : HL} {S : Wl} {ts : List ByteArray} {rs : List Rc} (h : Kq M bl bd b bo v W N S ts rs) : S.x.s.size ≤ 16384 := Nat.le_trans (h.w []).dk.fit h.room
theorem Kq.rs {M : Mem} {bl bd b bo : Nat} {v : Value} {W N : HL} {S : Wl} {ts : List ByteArray} {rs : List Rc} (h : Kq M bl bd b bo v W N S ts rs) : RsOf M rs ts := by
  refine rsOf_es h.k.es h.es h.ok ?_
  have h1 := (h.w []).len
  have h2 := h.size
  have h3 := congrArg List.length h.es
  simp only [List.length_map] at h3
  omega
theorem Kq.le {M M' : Mem} {bl bd b bo : Nat} {v : Value} {W N : HL} {S : Wl} {ts : List ByteArray} {rs : List Rc} (hm : M.le M') (h : Kq M bl bd b bo v W N S ts rs) : Kq M' bl bd b bo v W N S ts rs := ⟨h.w.le hm, h.k, h.es, fun r hr => (h.ok r hr).le hm, h.os, h.room⟩
abbrev kqL (L : HL) (b bo : Nat) (v : Value) (W N : HL) (S : Wl) : HL := W ++ (rlB b bo v :: (N ++ (odB bo S.x :: L)))
theorem kqAlike_ok (M : Mem) (L1 L : HL) (bl bd b bo : Nat) (v : Value) (W N : HL) (S : Wl) (ts : List ByteArray) (rs : List Rc) (h : Kq M bl bd b bo v W N S ts rs) (hp : L1.Perm (kqL L b bo v W N S)) :
    Tr Tryz.prog 20 [pt bl, pt b] M L1 (fun v' M' L' => M.le M' ∧ L' = L1 ∧ v' = .bool true) :=
  alike_ok M L1 W _ N bl bd b bo v S ts rs h.w hp (hp.mem_iff.2 (List.mem_append_right _ List.mem_cons_self)) (hp.mem_iff.2 (List.mem_append_right _ (List.mem_cons_of_mem _ (List.mem_append_right _ List.mem_cons_self)))) (fun p hx => hp.mem_iff.2 (List.mem_append_right _ (List.mem_cons_of_mem _ (List.mem_append_left _ hx)))) h.os h.rs h.k h.es
theorem rlAppendP_ok (M : Mem) (L R N : HL) (b bo : Nat) (v : Value) (rs : List Rc) (ts : List ByteArray) (S : Wl) (r : Rc) (hp : L.Perm (rlB b bo v :: (N ++ (odB bo S.x :: R)))) (hO : OS 35 10 v rs.length (rs.map rcC).flatten N) (h : RsOf M rs ts) (hk : Keeps S ts) (hx : DsOk S.x) (hl : S.x.left < 9223372036854775808) (hr : RcOk M r) (hsh : Short r.re) :
    Tr Tryz.prog 21 [pt b, .agg ⟨rcC r⟩] M L (fun v' M' L' => M.le M' ∧ v' = .int .i64 (wApp S r).1 ∧ ∃ v2 N2 rs2, L' = rlB b bo v2 :: (N2 ++ (odB bo (wApp S r).2.x :: R)) ∧ OS 35 10 v2 rs2.length (rs2.map rcC).flatten N2 ∧ (∀ q ∈ rs2, RcOk M' q) ∧ ((wApp S r).1 = 0 → rs2.map Rc.re = rs.map Rc.re ++ [r.re]) ∧ ((wApp S r).1 ≠ 0 → rs2 = rs)) := by
  refine (rlAppend_ok M R N b bo v rs ts S r hO h hk hx hl hr hsh).perm hp ?_
  intro v' M' L' h'
  exact ⟨_, List.Perm.refl _, h'⟩
theorem odSyncP_ok (M : Mem) (L R : HL) (b : Nat) (x : Ds) (hp : L.Perm (odB b x :: R)) (hx : DsOk x) (hl : x.left < 9223372036854775808) : Tr Tryz.prog 22 [pt b] M L (OdK (dSync x) M b R) := by
  refine (odSync_ok M R b x hx hl).perm hp ?_
  intro v' M' L' h'
  exact ⟨_, List.Perm.refl _, h'⟩
theorem odArmP_ok (M : Mem) (L R : HL) (b : Nat) (n : Int) (x : Ds) (hp : L.Perm (odB b x :: R)) : Tr Tryz.prog 23 [pt b, .int .i64 n] M L (fun _ M' L' => M = M' ∧ L' = odB b (dArm x n) :: R) := by
  refine (odArm_ok M R b n x).perm hp ?_
  intro v' M' L' h'
  exact ⟨_, List.Perm.refl _, h'⟩
theorem odCrashP_ok (M : Mem) (L R : HL) (b : Nat) (n : Int) (x : Ds) (hp : L.Perm (odB b x :: R)) (hx : DsOk x) : Tr Tryz.prog 24 [pt b, .int .i64 n] M L (fun _ M' L' => M = M' ∧ L' = odB b (dCrash x n) :: R) := by
  refine (odCrash_ok M R b n x hx).perm hp ?_
  intro v' M' L' h'
  exact ⟨_, List.Perm.refl _, h'⟩
end Go.Proofs.YtkjljcgbnikmkaaGreatDoor
namespace Go.Proofs.YtkjljcgbnikmkaaGreatDoor
open Go.Chi
set_option maxRecDepth 10000
set_option maxHeartbeats 16000000 in
theorem walPlays_ok (M : Mem) (L : HL) (room : Int) (s : Stps) (hk : KM M) (hs : StpsIn M s) : Tr Tryz.prog 4 [.int .i64 room, s.v] M L (fun v M' L' => M.le M' ∧ L' = L ∧ v = .bool true) := by
  have hx := hs.len
  refine Tr.intro 127 Tryz.func4 rfl rfl Tryz.call4 rfl ?_
  intro C hC hro
  repeat (first | refine zz ?_ | refine zx fun _ => ?_ | refine rq (qt_callF rfl (fun _ => heavy_ok _ _ s hs)) ?_)
  refine run_cond (t := (heavyS s || decide (room < 0)) || decide (room > 16384)) rfl (fun h => ?_) (fun h => ?_)
  · repeat (first | refine zz ?_ | refine zx fun _ => ?_ | (refine ro (st_callF rfl (fun _ => alive17_ok _ _ hk)) ?_; rintro _ M1 _ ⟨hM1, rfl, rfl⟩))
    exact run_ret hC (rs := [.tmp 4]) rfl (resT rfl resN) (fun w h => h) ⟨hM1, rfl, rfl⟩
  simp only [Bool.or_eq_false_iff, decide_eq_false_iff_not] at h
  obtain ⟨⟨hh, h0⟩, h1⟩ := h
  obtain ⟨room, rfl⟩ : ∃ n : Nat, room = (n : Int) := ⟨room.toNat, by omega⟩
  simp only [heavyS, Bool.or_eq_false_iff, decide_eq_false_iff_not, List.any_eq_false, Bool.not_eq_true] at hh
  obtain ⟨h60, hlong⟩ := hh
  repeat (first | refine zz ?_ | refine zx fun _ => ?_ | (refine ro (st_callF rfl (fun _ => begun_ok _ _ room (by omega) hk)) ?_; rintro _ M1 _ ⟨hM1, bl, bd, rfl, hw0⟩; obtain ⟨W0, rfl, hW0⟩ := hw0.p) | (refine ro (st_callF rfl (fun _ => odNew_ok _ _ room (by omega))) ?_; rintro _ _ _ ⟨rfl, bo, rfl, rfl⟩) | (refine ro (st_callF rfl (fun _ => refOpenG_ok _ _ bo (ds0 room) [] bz (ds0_ok (by omega)) (by show (0 : Nat) < _; decide) scn_nil (by show (0 : Nat) < _; decide) (fun t ht => by cases ht) rfl)) ?_; rintro _ M2 _ ⟨hM2, b, v0, N0, rs0, rfl, rfl, hO0, hR0⟩))
  obtain rfl : rs0 = [] := List.length_eq_zero_iff.1 hR0.len
  have hM12 := Mem.le_trans hM1 hM2
  have hK0 : Kq M2 bl bd b bo v0 W0 N0 (wl0 room) [] [] := ⟨hW0.le hM2, keeps0 room, rfl, (fun r hr => by cases hr), hO0, by show room ≤ 16384; omega⟩
  repeat (first | refine zz ?_ | refine zx fun _ => ?_ | (refine runL_gT rfl rfl (st_callF rfl (fun _ => kqAlike_ok _ _ L bl bd b bo v0 W0 N0 (wl0 room) [] [] hK0 (pm_iff.2 fun a => by simp only [kqL, cn_app, cn_cons]; show _ + (_ + (cn1 a (odB bo (ds0 room)) + _)) = _ + (_ + (_ + (cn1 a (odB bo (ds0 room)) + _))); omega))) rfl rfl rfl ?_; rintro _ M3 _ ⟨hM3, rfl, rfl⟩))
  refine run_cond rfl (fun h => by cases h) (fun _ => ?_)
  repeat (first | refine zz ?_ | refine zx fun _ => ?_)
  have hM13 := Mem.le_trans hM12 hM3
  refine run_loopN (fun j σ1 M2 L1 => j ≤ s.len ∧ M.le M2 ∧ ∃ bl b v W N S ts rs, σ1 = [(10, iv j), (8, pt b), (7, pt bo), (6, pt bd), (5, pt bl), (1, s.v)] ∧ L1.Perm (kqL L b bo v W N S) ∧ Kq M2 bl bd b bo v W N S ts rs) s.len [(10, iv 0), (8, pt b), (7, pt bo), (6, pt bd), (5, pt bl), (1, s.v)] ?_ ⟨Nat.zero_le _, hM13, bl, b, v0, W0, N0, wl0 room, [], [], rfl, pm_iff.2 fun a => by simp only [kqL, cn_app, cn_cons]; show _ + (_ + (cn1 a (odB bo (ds0 room)) + _)) = _ + (_ + (_ + (cn1 a (odB bo (ds0 room)) + _))); omega, hK0.le hM3⟩ (fun j _ _ _ h => h.1) ?_
  · exact ⟨rfl, rfl, rfl, rfl, rfl, rfl, trivial⟩
  clear hK0 hW0 hw0 hO0 hR0
  rintro j _ M2 L1 ⟨hj, hM2, bl, b, v, W, N, S, ts, rs, rfl, hp, hK⟩ hnext
  repeat (first | refine zz ?_ | refine zx fun _ => ?_)
  refine run_cond rfl (fun h => ?_) (fun h => ?_)
  · have hlt : j < s.len := by simpa using h
    obtain ⟨b0, off, x, ha, hxj, hcx, hxi⟩ := hs.at_ hlt
    have hv : s.v = .slice (some ⟨b0, off, none⟩) s.len s.cap := by rw [← ha]
    have hxl := hlong x (List.mem_of_getElem? hxj)
    obtain ⟨hro0, _, hxs, _, _⟩ := longR_m hxi.r hxl
    have hcx2 := hcx.le hM2
    refine run_as 1 (.slice (some ⟨b0, off, none⟩) s.len s.cap) rfl hv ?_
    refine run_skip ?_
    refine run_seq ?_
    refine run_block ?_
    refine run_seq ?_
    (refine run_region ?_; (repeat (first | refine zq ?_ | refine zx fun _ => ?_ | refine runL_q (qt_indexN tok rfl rfl rfl rfl (fun _ => by omega)) rfl rfl rfl ?_ | refine runL_g rfl rfl (qt_indexN tok rfl rfl rfl rfl (fun _ => by omega)) rfl rfl rfl rfl rfl ?_ | refine runL_q (qt_ldM tok rfl hcx2 rfl) rfl rfl rfl ?_ | refine runL_g rfl rfl (qt_ldM tok rfl hcx2 rfl) rfl rfl rfl rfl rfl ?_ | refine runL_q (qt_ldM0 tok rfl hcx2 rfl) rfl rfl rfl ?_ | refine runL_g rfl rfl (qt_ldM0 tok rfl hcx2 rfl) rfl rfl rfl rfl rfl ?_)); refine runL_nil ?_)
    refine run_seq ?_
    refine run_seq ?_
    (refine run_region ?_; (repeat (first | refine zq ?_ | refine zx fun _ => ?_)); refine runL_nil ?_)
    rename_i bx
    have hk2 := hk.le hM2
    refine run_cut (fun σ' M' L' => M2.le M' ∧ ∃ bl b v W N S ts rs, σ' = [(10, iv j), (8, pt b), (7, pt bo), (6, pt bd), (5, pt bl), (1, s.v)] ∧ L'.Perm (kqL ((bx, .cells ⟨stpC x⟩ 37 (0, 0)) :: L) b bo v W N S) ∧ Kq M' bl bd b bo v W N S ts rs) ?_ ?_
    rotate_left
    · intro hnext2
      have hpW : ((bx, .cells ⟨stpC x⟩ 37 (0, 0)) :: L1 : HL).Perm (W ++ (rlB b bo v :: (N ++ (odB bo S.x :: ((bx, .cells ⟨stpC x⟩ 37 (0, 0)) :: L))))) := pm_iff.2 fun a => by
        have := pm_iff.1 hp a
        simp only [kqL, cn_app, cn_cons] at this ⊢
        omega
      have hwx := (hK.w []).dk
      have hwl := (hK.w []).left
      refine run_block ?_
      refine run_seq ?_
      (refine run_region ?_; (repeat (first | refine zq ?_ | refine zx fun _ => ?_)); refine runL_nil ?_)
      refine run_cond rfl (fun hd => ?_) (fun hd => ?_)
      · refine run_seq ?_
        refine prn_start mixed ?_
        refine pr_q 0 (by decide +kernel) rfl (qt_pev tok rfl) rfl rfl rfl ?_
        refine pr_q 1 (by decide +kernel) rfl (qt_pev tok rfl) rfl rfl rfl ?_
        refine pr_q 2 (by decide +kernel) rfl (qt_ld (v := .agg ⟨rcC x.r⟩) tok rfl List.mem_cons_self rfl) rfl rfl rfl ?_
        refine pr_q 5 (by decide +kernel) rfl (qt_pev tok rfl) rfl rfl rfl ?_
        refine pr_q 6 (by decide +kernel) rfl (qt_pev tok rfl) rfl rfl rfl ?_
        refine pr_q 7 (by decide +kernel) rfl (qt_ld (v := .agg ⟨rcC x.r⟩) tok rfl List.mem_cons_self rfl) rfl rfl rfl ?_
        refine pr_one 3 (by decide +kernel) (eff1 3 rfl (st_callF rfl (fun _ => down_ok _ _ x.r (hro0.le hM2))) (by decide +kernel) (qs := _) rfl rfl rfl rfl ?_)
        rintro _ M3 _ ⟨hM3, rfl, r', rfl, hre', hro'⟩
        refine ⟨by (repeat (first | exact trivial | refine And.intro (pend_q rfl rfl rfl (qt_pev tok rfl)) ?_ | refine And.intro (pend_q rfl rfl rfl (ql tok rfl)) ?_)), ?_⟩
        have hro3 := hro0.le (Mem.le_trans hM2 hM3)
        have hA := wAppP_ok M3 _ bl bd S r' W _ (hk2.le hM3) (hK.w.le hM3) hpW hro' (hre' ▸ hxs)
        rw [wApp_re S hro3 hro' hre'] at hA
        refine pr_one 4 (by decide +kernel) (eff1 4 rfl (st_callF rfl (fun _ => hA)) (by decide +kernel) (qs := _) rfl rfl rfl rfl ?_)
        rintro _ M4 _ ⟨hM4, rfl, W', rfl, hW'⟩
        refine ⟨by (repeat (first | exact trivial | refine And.intro (pend_q rfl rfl rfl (qt_pev tok rfl)) ?_ | refine And.intro (pend_q rfl rfl rfl (ql tok rfl)) ?_)), ?_⟩
        have hM34 := Mem.le_trans hM3 hM4
        refine pr_one 8 (by decide +kernel) (eff1 8 rfl (st_callF rfl (fun _ => rlAppendP_ok _ _ (W' ++ ((bx, .cells ⟨stpC x⟩ 37 (0, 0)) :: L)) N b bo v rs ts S x.r (pm_iff.2 fun a => by simp only [kqL, cn_app, cn_cons]; omega) hK.os (hK.rs.le hM34) hK.k hwx hwl (hro3.le hM4) hxs)) (by decide +kernel) (qs := _) rfl rfl rfl rfl ?_)
        rintro _ M5 _ ⟨hM5, rfl, v2, N2, rs2, rfl, hO2, hok2, he1, he2⟩
        refine ⟨by (repeat (first | exact trivial | refine And.intro (pend_q rfl rfl rfl (qt_pev tok rfl)) ?_ | refine And.intro (pend_q rfl rfl rfl (ql tok rfl)) ?_)), ?_⟩
        refine pr_q 9 (by decide +kernel) rfl (qt_pev tok rfl) rfl rfl rfl ?_
        refine pr_as 101 (.bool false) rfl (by simp) ?_
        refine pr_end (by decide +kernel) (by decide +kernel) ?_
        refine run_cond rfl (fun h => by cases h) (fun _ => ?_)
        refine run_skip ?_
        refine run_inBlock ?_
        have hM35 := Mem.le_trans hM34 hM5
        have hroom : (wApp S x.r).2.x.room ≤ 16384 := by rw [wApp_room]; exact hK.room
        rcases keeps_app hK.k hro3 with ⟨he, _, hk', hes', _⟩ | ⟨he, hk', hes', _⟩
        · exact run_sub' (hnext2 _ _ _ ⟨hM35, bl, b, v2, W', N2, _, ts ++ [(encE x.r).1], rs2, rfl, pm_iff.2 fun a => by simp only [kqL, cn_app, cn_cons]; omega, ⟨hW'.le hM5, hk', by rw [hes', hK.es, he1 he], hok2, hO2, hroom⟩⟩) ⟨rfl, rfl, rfl, rfl, rfl, by rw [hv]; rfl, trivial⟩
        · exact run_sub' (hnext2 _ _ _ ⟨hM35, bl, b, v2, W', N2, _, ts, rs2, rfl, pm_iff.2 fun a => by simp only [kqL, cn_app, cn_cons]; omega, ⟨hW'.le hM5, hk', by rw [hes', hK.es, he2 he], hok2, hO2, hroom⟩⟩) ⟨rfl, rfl, rfl, rfl, rfl, by rw [hv]; rfl, trivial⟩
      refine run_seq ?_
      (refine run_region ?_; (repeat (first | refine zq ?_ | refine zx fun _ => ?_)); refine runL_nil ?_)
      refine run_cond rfl (fun hd => ?_) (fun hd => ?_)
      · refine run_seq ?_
        (refine run_region ?_; (repeat (first | refine zq ?_ | refine zx fun _ => ?_ | (refine ro (st_callF rfl (fun _ => wSyncP_ok _ _ bl bd S W _ hK.w hpW)) ?_; rintro _ M4 _ ⟨hM4, rfl, W', rfl, hW'⟩) | (refine ro (st_callF rfl (fun _ => odSyncP_ok _ _ (W' ++ (rlB b bo v :: (N ++ ((bx, .cells ⟨stpC x⟩ 37 (0, 0)) :: L)))) bo S.x (pm_iff.2 fun a => by simp only [kqL, cn_app, cn_cons]; omega) hwx hwl)) ?_; rintro _ _ _ ⟨rfl, rfl, rfl⟩))); refine runL_nil ?_)
        refine run_cond (t := (dSync S.x).1 != (dSync S.x).1) rfl (fun h => by simp at h) (fun _ => ?_)
        refine run_skip ?_
        refine run_inBlock ?_
        obtain ⟨hk', _, _⟩ := keeps_sync hK.k hwx
        have hroom : (wSync S).2.x.room ≤ 16384 := by show (dSync S.x).2.room ≤ _; rw [dSync_room]; exact hK.room
        exact run_sub' (hnext2 _ _ _ ⟨hM4, bl, b, v, W', N, (wSync S).2, ts, rs, rfl, pm_iff.2 fun a => by simp only [kqL, cn_app, cn_cons]; show cn1 a (odB bo (dSync S.x).2) + _ = _ + (_ + (_ + (cn1 a (odB bo (dSync S.x).2) + _))); omega, ⟨hW', hk', hK.es, fun r hr => (hK.ok r hr).le hM4, hK.os, hroom⟩⟩) ⟨rfl, rfl, rfl, rfl, rfl, by rw [hv]; rfl, trivial⟩
      refine run_seq ?_
      (refine run_region ?_; (repeat (first | refine zq ?_ | refine zx fun _ => ?_)); refine runL_nil ?_)
      refine run_cond rfl (fun hd => ?_) (fun hd => ?_)
      · refine run_seq ?_
        (refine run_region ?_; (repeat (first | refine zq ?_ | refine zx fun _ => ?_ | (refine ro (st_callF rfl (fun _ => wArmP_ok _ _ bl bd S x.n W _ hxi.n hK.w hpW)) ?_; rintro _ _ _ ⟨rfl, W', rfl, hW'⟩))); refine runL_nil ?_)
        (refine run_region ?_; (repeat (first | refine zq ?_ | refine zx fun _ => ?_ | (refine ro (st_callF rfl (fun _ => odArmP_ok _ _ (W' ++ (rlB b bo v :: (N ++ ((bx, .cells ⟨stpC x⟩ 37 (0, 0)) :: L)))) bo x.n S.x (pm_iff.2 fun a => by simp only [kqL, cn_app, cn_cons]; omega))) ?_; rintro _ _ _ ⟨rfl, rfl⟩))); refine runL_nil ?_)
        refine run_inBlock ?_
        exact run_sub' (hnext2 _ _ _ ⟨Mem.le_refl _, bl, b, v, W', N, { S with x := dArm S.x x.n }, ts, rs, rfl, pm_iff.2 fun a => by simp only [kqL, cn_app, cn_cons]; omega, ⟨hW', keeps_arm x.n hK.k, hK.es, hK.ok, hK.os, hK.room⟩⟩) ⟨rfl, rfl, rfl, rfl, rfl, by rw [hv]; rfl, trivial⟩
      refine run_seq ?_
      (refine run_region ?_; (repeat (first | refine zq ?_ | refine zx fun _ => ?_ | (refine ro (st_callF rfl (fun _ => wCrashP_ok _ _ bl bd S x.n W _ hK.w hpW)) ?_; rintro _ _ _ ⟨rfl, ac, cc, G, rfl, hvc⟩))); refine runL_nil ?_)
      refine run_seq ?_
      (refine run_region ?_; (repeat (first | refine zq ?_ | refine zx fun _ => ?_ | (refine ro (st_callF rfl (fun _ => odCrashP_ok _ _ (dkB bd (dCrash S.x x.n) ac cc :: (G ++ (rlB b bo v :: (N ++ ((bx, .cells ⟨stpC x⟩ 37 (0, 0)) :: L))))) bo x.n S.x (pm_iff.2 fun a => by simp only [kqL, cn_app, cn_cons]; omega) hwx)) ?_; rintro _ _ _ ⟨rfl, rfl⟩))); refine runL_nil ?_)
      refine run_mem (L' := dkB bd (dCrash S.x x.n) ac cc :: (odB bo (dCrash S.x x.n) :: ((bx, .cells ⟨stpC x⟩ 37 (0, 0)) :: L))) (fun w h => ((h.perm (L' := G ++ (rlB b bo v :: (N ++ (dkB bd (dCrash S.x x.n) ac cc :: (odB bo (dCrash S.x x.n) :: ((bx, .cells ⟨stpC x⟩ 37 (0, 0)) :: L)))))) (pm_iff.2 fun a => by simp only [kqL, cn_app, cn_cons]; omega)).dropAll.drop).dropAll) ?_
      have hsz := hK.size
      obtain ⟨m, X, hXr, hop, hop2⟩ := reopen2_ok M2 (odB bo (dCrash S.x x.n) :: ((bx, .cells ⟨stpC x⟩ 37 (0, 0)) :: L)) bl bd S x.n ts ac cc hk2 hwx hK.k hvc (by omega)
      refine run_seq ?_
      (refine run_region ?_; (repeat (first | refine zq ?_ | refine zx fun _ => ?_ | (refine ro (st_callF rfl (fun _ => hop)) ?_; rintro _ M4 _ ⟨hM4, bl', S', rfl, k4, rfl, hw4⟩))); refine runL_nil ?_)
      obtain ⟨W4, rfl, hW4⟩ := hw4.p
      refine run_mem (L' := odB bo (dCrash S.x x.n) :: (W4 ++ ((bx, .cells ⟨stpC x⟩ 37 (0, 0)) :: L))) (fun w h => h.perm List.perm_middle) ?_
      refine run_seq ?_
      (refine run_region ?_; (repeat (first | refine zq ?_ | refine zx fun _ => ?_ | (refine ro (st_callF rfl (fun _ => hop2 _ _ _)) ?_; rintro _ M5 _ ⟨hM5, b', v', N', rs', rfl, rfl, hO', hR'⟩))); refine runL_nil ?_)
      refine run_seq ?_
      refine run_seq ?_
      (refine run_region ?_; (repeat (first | refine zq ?_ | refine zx fun _ => ?_)); refine runL_nil ?_)
      refine run_cond rfl (fun h => by cases h) (fun _ => ?_)
      refine run_skip ?_
      (refine run_region ?_; (repeat (first | refine zq ?_ | refine zx fun _ => ?_)); refine runL_nil ?_)
      refine run_inBlock ?_
      have hM25 := Mem.le_trans hM4 hM5
      exact run_sub' (hnext2 _ _ _ ⟨hM25, bl', b', v', W4, N', S', ts.take m, rs', rfl, pm_iff.2 fun a => by simp only [kqL, cn_app, cn_cons]; omega, ⟨hW4.le hM5, k4, es_of k4.es hR', hR'.ok, hO', by rw [hXr]; exact hK.room⟩⟩) ⟨rfl, rfl, rfl, rfl, rfl, by rw [hv]; rfl, trivial⟩
    clear hK hp
    rintro _ M3 L3 ⟨hM3, bl, b, v, W, N, S, ts, rs, rfl, hp, hK⟩
    have hM03 := Mem.le_trans hM2 hM3
    repeat (first | refine zz ?_ | refine zx fun _ => ?_ | (refine ro (st_callF rfl (fun _ => kqAlike_ok _ _ _ bl bd b bo v W N S ts rs hK hp)) ?_; rintro _ M5 _ ⟨hM5, rfl, rfl⟩))
    refine run_cond rfl (fun h => by cases h) (fun _ => ?_)
    refine run_mem (L' := kqL L b bo v W N S) (fun w h => (h.perm (L' := (bx, .cells ⟨stpC x⟩ 37 (0, 0)) :: kqL L b bo v W N S) (pm_iff.2 fun a => by
      have := pm_iff.1 hp a
      simp only [kqL, cn_app, cn_cons] at this ⊢
      omega)).drop) ?_
    repeat (first | refine zz ?_ | refine zx fun _ => ?_)
    exact run_sub' (hnext _ _ _ ⟨hlt, Mem.le_trans hM03 hM5, bl, b, v, W, N, S, ts, rs, rfl, List.Perm.refl _, hK.le hM5⟩) ⟨lk_succ rfl (by omega), rfl, rfl, rfl, rfl, by rw [hv]; rfl, trivial⟩
  repeat (first | refine zz ?_ | refine zx fun _ => ?_ | refine rq (qt_callF rfl (fun _ => nothing_ok _ _)) ?_ | (refine runL_gT rfl rfl (st_callF rfl (fun _ => alive17_ok _ _ (hk.le hM2))) rfl rfl rfl ?_; rintro _ M3 _ ⟨hM3, rfl, rfl⟩))
  exact run_ret hC (rs := [.tmp 4]) rfl (resT rfl resN) (fun w h => ((h.perm hp).dropAll.drop).dropAll.drop) ⟨Mem.le_trans hM2 hM3, rfl, rfl⟩
end Go.Proofs.YtkjljcgbnikmkaaGreatDoor
namespace Go.Proofs.YtkjljcgbnikmkaaGreatDoor
open Go.Chi
set_option maxRecDepth 10000
theorem irem_ok {c n : Nat} (hc : c < 65536) (hn : n < 1000000) : (IntKind.i64.wrap (c : Int)).tmod (IntKind.i64.wrap ((n : Int) + 1)) = ((c % (n + 1) : Nat) : Int) := by
  rw [wrap64_nat (by omega), show (n : Int) + 1 = ((n + 1 : Nat) : Int) by omega, wrap64_nat (by omega)]
  rfl
section
open Classical
noncomputable def opR (x : Ds) (ts : List ByteArray) : Int × Ds := if ∀ t ∈ ts, ∃ z, Dec t z then openX x (frsB firstB ts).size else (7, x)
theorem opR_bad {x : Ds} {ts : List ByteArray} (h : ∃ t ∈ ts, ∀ z, ¬ Dec t z) : opR x ts = (7, x) := by
  obtain ⟨t, h1, h2⟩ := h
  exact if_neg fun h => by obtain ⟨z, hz⟩ := h t h1; exact h2 z hz
theorem opR_good {x : Ds} {ts : List ByteArray} (h : ∀ t ∈ ts, ∃ z, Dec t z) : opR x ts = openX x (frsB firstB ts).size := if_pos h
theorem opR_room (x : Ds) (ts : List ByteArray) : (opR x ts).2.room = x.room := by
  unfold opR
  split
  · exact openX_room _ _
  · rfl
theorem opR_dk {x : Ds} (hx : DsOk x) (ts : List ByteArray) : DsOk (opR x ts).2 := by
  unfold opR
  split
  · unfold openX
    split
    · exact dCut_ok hx _
    · exact hx
  · exact hx
end
theorem opR_s {x : Ds} {ts : List ByteArray} {rest : ByteArray} (h : Scn firstB x.s ts rest) (h0 : (opR x ts).1 = 0) : (opR x ts).2.s = frsB firstB ts := by
  unfold opR at h0 ⊢
  split at h0
  · rename_i hh
    rw [if_pos hh]
    have he := h.eq
    have hz := congrArg ByteArray.size he
    rw [app_size] at hz
    unfold openX at h0 ⊢
    split at h0
    · rename_i h1
      rw [if_pos h1]
      unfold dCut wr at h0 ⊢
      split at h0
      · cases h0
      · rename_i h2
        rw [if_neg h2]
        have h4 : ¬ x.s.size < (frsB firstB ts).size := by omega
        rw [if_neg h4]
        split
        · show x.s.extract 0 _ = _; rw [he]; exact ext_left _ _
        · show x.s.extract 0 _ = _; rw [he]; exact ext_left _ _
    · rename_i h1
      rw [if_neg h1]
      show x.s = _
      have : x.s.extract 0 (frsB firstB ts).size = frsB firstB ts := by rw [he]; exact ext_left _ _
      rw [← this]
      have e : (frsB firstB ts).size = x.s.size := by omega
      rw [e]
      exact (ext_all _).symm
  · cases h0
theorem wOpenX_ok (M : Mem) (L L0 : HL) (bd : Nat) (x : Ds) (a : Option Addr) (cap : Nat) (ts : List ByteArray) (rest : ByteArray) (hp : L.Perm (dkB bd x a cap :: L0)) (hk : KM M) (hx : DsOk x) (hv : BV M a cap x.s) (hl : x.left < 9223372036854775808) (h : Scn firstB x.s ts rest) :
    Tr Tryz.prog 14 [pt bd] M L (fun v M' L' => M.le M' ∧ ∃ pl W a2 c2 R, v = .tuple ⟨[pl, .int .i64 (opR x ts).1]⟩ ∧ L' = W ++ L0 ∧ W.Perm (dkB bd (opR x ts).2 a2 c2 :: R) ∧ BV M' a2 c2 (opR x ts).2.s ∧ ((opR x ts).1 ≠ 0 → pl = .pointer none) ∧ ((opR x ts).1 = 0 → ∃ bl es, pl = pt bl ∧ EsOk ts es ∧ WlP M' bl bd ⟨es, headB firstB ts, (opR x ts).2⟩ W)) := by
  refine (wOpen_ok M L0 bd x a cap ts rest hk hx hv hl h).perm hp ?_
  rintro v M' L' ⟨h1, ⟨hb, rfl, a2, c2, rfl, hv2⟩ | ⟨hg, ⟨h0, rfl, a2, c2, rfl, hv2⟩ | ⟨h0, bl, es, rfl, he, hw⟩⟩⟩
  · refine ⟨_, List.Perm.refl _, h1, .pointer none, [dkB bd x a2 c2], a2, c2, [], ?_⟩
    rw [opR_bad hb]
    exact ⟨rfl, rfl, List.Perm.refl _, hv2, fun _ => rfl, fun h => by cases h⟩
  · refine ⟨_, List.Perm.refl _, h1, .pointer none, [dkB bd (openX x (frsB firstB ts).size).2 a2 c2], a2, c2, [], ?_⟩
    rw [opR_good hg]
    exact ⟨rfl, rfl, List.Perm.refl _, hv2, fun _ => rfl, fun h => absurd h h0⟩
  · obtain ⟨W, rfl, hW⟩ := hw.p
    obtain ⟨es', v', N', a2, c2, hL, _, _, _, hv2⟩ := (hW []).ex
    rw [List.append_nil] at hL
    refine ⟨_, List.Perm.refl _, h1, pt bl, W, a2, c2, lgB bl bd v' (headB firstB ts) :: N', ?_⟩
    rw [opR_good hg, h0]
    exact ⟨rfl, rfl, by rw [hL]; exact pmD _ _ N' [] |>.trans (by rw [List.append_nil]), hv2, fun h => absurd rfl h, fun _ => ⟨bl, es, rfl, he, hW⟩⟩
theorem refOpenX_ok (M : Mem) (L L0 : HL) (bo : Nat) (x : Ds) (ts : List ByteArray) (rest : ByteArray) (hp : L.Perm (odB bo x :: L0)) (hx : DsOk x) (hl : x.left < 9223372036854775808) (h : Scn firstB x.s ts rest) (hs : x.s.size < 1000000) :
    Tr Tryz.prog 19 [pt bo] M L (fun v M' L' => M.le M' ∧ ∃ pr D, v = .tuple ⟨[pr, .int .i64 (opR x ts).1]⟩ ∧ L' = D ++ (odB bo (opR x ts).2 :: L0) ∧ ((opR x ts).1 = 0 → ∃ b v2 N rs, pr = pt b ∧ D = rlB b bo v2 :: N ∧ OS 35 10 v2 rs.length (rs.map rcC).flatten N ∧ RsOf M' rs ts)) := by
  refine (refOpen_ok M L0 bo x ts rest hx hl h hs).perm hp ?_
  rintro v M' L' ⟨h1, ⟨hb, rfl, rfl⟩ | ⟨hg, ⟨h0, rfl, rfl⟩ | ⟨h0, b, v2, N, rs, rfl, rfl, hO, hR⟩⟩⟩
  · refine ⟨_, List.Perm.refl _, h1, .pointer none, [], ?_⟩
    rw [opR_bad hb]
    exact ⟨rfl, rfl, fun h => by cases h⟩
  · refine ⟨_, List.Perm.refl _, h1, .pointer none, [], ?_⟩
    rw [opR_good hg]
    exact ⟨rfl, rfl, fun h => absurd h h0⟩
  · refine ⟨_, List.Perm.refl _, h1, pt b, rlB b bo v2 :: N, ?_⟩
    rw [opR_good hg, h0]
    exact ⟨rfl, rfl, fun _ => ⟨b, v2, N, rs, rfl, rfl, hO, hR⟩⟩
theorem dkArmP_ok (M : Mem) (L R : HL) (b : Nat) (n : Int) (x : Ds) (a : Option Addr) (cap : Nat) (hp : L.Perm (dkB b x a cap :: R)) : Tr Tryz.prog 12 [pt b, .int .i64 n] M L (fun _ M' L' => M = M' ∧ L' = dkB b (dArm x n) a cap :: R) := by
  refine (dkArm_ok M R b n x a cap).perm hp ?_
  intro v M' L' h
  exact ⟨_, List.Perm.refl _, h⟩
end Go.Proofs.YtkjljcgbnikmkaaGreatDoor
namespace Go.Proofs.YtkjljcgbnikmkaaGreatDoor
open Go.Chi
set_option maxRecDepth 10000
set_option maxHeartbeats 16000000 in
theorem walOpens_ok (M : Mem) (L : HL) (s : ByteArray) (y z : Int) (hy : 0 ≤ y ∧ y < 65536) (hz : 0 ≤ z ∧ z < 65536) (hk : KM M) : Tr Tryz.prog 5 [.string s, .int .u16 y, .int .u16 z] M L (fun v M' L' => M.le M' ∧ L' = L ∧ v = .bool true) := by
  obtain ⟨y, rfl⟩ : ∃ n : Nat, y = (n : Int) := ⟨y.toNat, by omega⟩
  obtain ⟨z, rfl⟩ : ∃ n : Nat, z = (n : Int) := ⟨z.toNat, by omega⟩
  have hyn : y < 65536 := by omega
  have hzn : z < 65536 := by omega
  refine Tr.intro 136 Tryz.func5 rfl rfl Tryz.call5 rfl ?_
  intro C hC hro
  repeat (first | refine zz ?_ | refine zx fun _ => ?_)
  refine run_cond (t := decide ((s.size : Int) > 8192)) rfl (fun h => ?_) (fun h => ?_)
  · repeat (first | refine zz ?_ | refine zx fun _ => ?_ | (refine ro (st_callF rfl (fun _ => alive17_ok _ _ hk)) ?_; rintro _ M1 _ ⟨hM1, rfl, rfl⟩))
    exact run_ret hC (rs := [.tmp 6]) rfl (resT rfl resN) (fun w h => h) ⟨hM1, rfl, rfl⟩
  have hs : s.size ≤ 8192 := by simp at h; omega
  repeat (first | refine zz ?_ | refine zx fun _ => ?_ | (refine ro (st_callF rfl (fun _ => dkNewN_ok _ _ s.size (by omega))) ?_; rintro _ _ _ ⟨rfl, bd, rfl, rfl⟩) | (refine ro (st_callF rfl (fun _ => odNew_ok _ _ s.size (by omega))) ?_; rintro _ _ _ ⟨rfl, bo, rfl, rfl⟩))
  refine run_cond rfl (fun h => by cases h) (fun _ => ?_)
  have hkle : y % (s.size + 1) ≤ s.size := by have := Nat.mod_lt y (y := s.size + 1) (by omega); omega
  have hnz : IntKind.i64.wrap ((s.size : Int) + 1) ≠ 0 := by
    rw [show (s.size : Int) + 1 = ((s.size + 1 : Nat) : Int) by omega, wrap64_nat (by omega)]; omega
  have hrem := irem_ok (n := s.size) hyn (by omega)
  refine run_mem (L' := dkB bd (ds0 s.size) none 0 :: (odB bo (ds0 s.size) :: L)) (fun w h => h.perm (List.Perm.swap _ _ _)) ?_
  refine run_skip ?_
  refine run_seq ?_
  (refine run_region ?_; (repeat (first | refine zq ?_ | refine zx fun _ => ?_ | refine rq (Qt.as (v' := iv (y % (s.size + 1))) (qt_rem rfl rfl (fun _ => hnz)) (by rw [hrem])) ?_)); refine runL_nil ?_)
  generalize y % (s.size + 1) = k at hkle ⊢
  have hx0 := ds0_ok (room := s.size) (by omega)
  have hl0 : (ds0 s.size).left < 9223372036854775808 := by show (0 : Nat) < _; decide
  have hx1 := dApp_ok hx0 (s.extract 0 k)
  have hl1 := Nat.lt_of_le_of_lt (dApp_left (ds0 s.size) (s.extract 0 k)) hl0
  have hr1 := dApp_room (ds0 s.size) (s.extract 0 k)
  have hx2 := dSync_ok hx1
  have hl2 := Nat.lt_of_le_of_lt (dSync_left _) hl1
  have hr2 := (dSync_room _).trans hr1
  have hx3 := dApp_ok hx2 (s.extract k s.size)
  have hl3 := Nat.lt_of_le_of_lt (dApp_left _ (s.extract k s.size)) hl2
  have hr3 := (dApp_room _ (s.extract k s.size)).trans hr2
  have hz1 : (s.extract 0 k).size < 1000000000 := by rw [ext0_size hkle]; omega
  have hz2 : (s.extract k s.size).size < 1000000000 := by rw [ByteArray.size_extract]; omega
  have hR : (ds0 s.size).room = s.size := rfl
  rw [hR] at hr3
  clear hr1 hr2 hR
  repeat (first | refine zz ?_ | refine zx fun _ => ?_ | refine rq (qt_strHi (n := k) tok rfl rfl rfl (fun _ => hkle)) ?_ | (refine ro (st_callF rfl (fun _ => dkApp_ok _ _ bd (s.extract 0 k) (ds0 s.size) none 0 hx0 ⟨Nat.le_refl _, by decide, .inl ⟨rfl, rfl⟩⟩ hz1 hl0)) ?_; rintro _ M1 _ ⟨hM1, a1, c1, rfl, rfl, hv1⟩) | (refine ro (st_callF rfl (fun _ => dkSync_ok _ _ bd _ a1 c1 hx1 hv1 hl1)) ?_; rintro _ M2 _ ⟨hM2, a2, c2, rfl, rfl, hv2⟩) | refine rq (qt_strLo (n := k) tok rfl rfl rfl (fun _ => hkle)) ?_ | (refine ro (st_callF rfl (fun _ => dkApp_ok _ _ bd (s.extract k s.size) _ a2 c2 hx2 hv2 hz2 hl2)) ?_; rintro _ M3 _ ⟨hM3, a3, c3, rfl, rfl, hv3⟩) | (refine ro (st_callF rfl (fun _ => odAppP_ok _ _ (dkB bd _ a3 c3 :: L) bo (ds0 s.size) (s.extract 0 k) (List.Perm.swap _ _ _) hx0 hl0 hz1)) ?_; rintro _ _ _ ⟨rfl, rfl, rfl⟩) | (refine ro (st_callF rfl (fun _ => odSyncP_ok _ _ (dkB bd _ a3 c3 :: L) bo _ (List.Perm.refl _) hx1 hl1)) ?_; rintro _ _ _ ⟨rfl, rfl, rfl⟩) | (refine ro (st_callF rfl (fun _ => odAppP_ok _ _ (dkB bd _ a3 c3 :: L) bo _ (s.extract k s.size) (List.Perm.refl _) hx2 hl2 hz2)) ?_; rintro _ _ _ ⟨rfl, rfl, rfl⟩))
  have hM03 := Mem.le_trans hM1 (Mem.le_trans hM2 hM3)
  have hw : IntKind.i64.wrap (z : Int) = (z : Int) := wrap64_nat (by omega)
  generalize (dApp (dSync (dApp (ds0 s.size) (s.extract 0 k)).2).2 (s.extract k s.size)).2 = x3 at hx3 hl3 hr3 hv3 ⊢
  refine run_cut (fun σ' M' L' => M' = M3 ∧ ∃ x, σ' = [(7, pt bd), (9, pt bo)] ∧ L' = odB bo x :: dkB bd x a3 c3 :: L ∧ BV M3 a3 c3 x.s ∧ DsOk x ∧ x.left < 9223372036854775808 ∧ x.room = s.size) ?_ ?_
  rotate_left
  · intro hnext
    refine run_cond rfl (fun _ => ?_) (fun _ => ?_)
    · refine run_seq ?_
      (refine run_region ?_; (repeat (first | refine zq ?_ | refine zx fun _ => ?_ | (refine ro (st_callF rfl (fun _ => dkArmP_ok _ _ (odB bo x3 :: L) bd (IntKind.i64.wrap (z : Int)) x3 a3 c3 (List.Perm.swap _ _ _))) ?_; rintro _ _ _ ⟨rfl, rfl⟩))); refine runL_nil ?_)
      (refine run_region ?_; (repeat (first | refine zq ?_ | refine zx fun _ => ?_ | (refine ro (st_callF rfl (fun _ => odArmP_ok _ _ (dkB bd _ a3 c3 :: L) bo (IntKind.i64.wrap (z : Int)) x3 (List.Perm.swap _ _ _))) ?_; rintro _ _ _ ⟨rfl, rfl⟩))); refine runL_nil ?_)
      exact run_sub' (hnext _ _ _ ⟨rfl, dArm x3 (IntKind.i64.wrap (z : Int)), rfl, rfl, hv3, ⟨hx3.syn, hx3.fit, hx3.room⟩, by rw [hw]; show (z : Int).toNat < _; omega, hr3⟩) ⟨rfl, rfl, trivial⟩
    · refine run_skip ?_
      exact run_sub' (hnext _ _ _ ⟨rfl, x3, rfl, rfl, hv3, hx3, hl3, hr3⟩) ⟨rfl, rfl, trivial⟩
  clear hx3 hl3 hr3 hv3 hx2 hl2 hx1 hl1
  rintro _ _ _ ⟨rfl, x, rfl, rfl, hv, hx, hl, hr⟩
  have hsz : x.s.size ≤ 8192 := by have := hx.fit; omega
  obtain ⟨ts, rest, hscn⟩ := scn_ex x.s.size firstB x.s (Nat.le_refl _)
  repeat (first | refine zz ?_ | refine zx fun _ => ?_ | (refine ro (st_callF rfl (fun _ => wOpenX_ok _ _ (odB bo x :: L) bd x a3 c3 ts rest (List.Perm.swap _ _ _) (hk.le hM03) hx hv hl hscn)) ?_; rintro _ M4 _ ⟨hM4, pl, W, a4, c4, R, rfl, rfl, hWp, hv4, hn4, ho4⟩) | (refine ro (st_callF rfl (fun _ => refOpenX_ok _ _ (W ++ L) bo x ts rest List.perm_middle hx hl hscn (by omega))) ?_; rintro _ M5 _ ⟨hM5, pr, D, rfl, rfl, ho5⟩))
  refine prn_start mixed ?_
  refine dq ?_
  refine dq ?_
  refine dq ?_
  refine dq ?_
  refine pr_as 86 (.bool false) rfl (by simp) ?_
  have hpd : (D ++ (odB bo (opR x ts).2 :: (W ++ L))).Perm (dkB bd (opR x ts).2 a4 c4 :: (R ++ (D ++ (odB bo (opR x ts).2 :: L)))) := pm_iff.2 fun a => by
    have := pm_iff.1 hWp a
    simp only [cn_app, cn_cons] at this ⊢
    omega
  have hmo : odB bo (opR x ts).2 ∈ (D ++ (odB bo (opR x ts).2 :: (W ++ L))) := List.mem_append_right _ List.mem_cons_self
  have hxR := opR_dk hx ts
  have hg := good_size hxR
  have hls := loose_size hxR
  have hgl := good_loose hxR
  have hfit := hxR.fit
  have hsyn := hxR.syn
  have hroom := (opR_room x ts).trans hr
  repeat (first | refine dq ?_ | refine dgK ?_ | refine prn_gK rfl rfl rfl (qt_callF rfl (fun _ => trq_perm (dkBytes_ok _ _ bd _ a4 c4 (hv4.mono hM5)) hpd)) (by decide +kernel) rfl rfl rfl ?_ | refine prn_gK rfl rfl rfl (qt_ld tok rfl hmo rfl) (by decide +kernel) rfl rfl rfl ?_ | refine prn_gK rfl rfl rfl (Qt.as (v' := .string (opR x ts).2.s) (qt_concat rfl rfl (by omega)) (congrArg Value.string hgl)) (by decide +kernel) rfl rfl rfl ?_)
  refine pr_as 100 (.bool false) rfl (by simp [bytes_beq]) ?_
  repeat (first | refine dq ?_ | refine dgK ?_ | refine prn_gK rfl rfl rfl (qt_callF rfl (fun _ => trq_perm (dkSynced_ok _ _ bd _ a4 c4) hpd)) (by decide +kernel) rfl rfl rfl ?_ | refine prn_gK rfl rfl rfl (qt_ld tok rfl hmo rfl) (by decide +kernel) rfl rfl rfl ?_)
  refine pr_as 110 (.bool false) rfl (by rw [hg]; simp) ?_
  repeat (first | refine dq ?_ | refine dgK ?_ | refine prn_gK rfl rfl rfl (qt_callF rfl (fun _ => trq_perm (dkDown_ok _ _ bd _ a4 c4) hpd)) (by decide +kernel) rfl rfl rfl ?_ | refine prn_gK rfl rfl rfl (qt_ld tok rfl hmo rfl) (by decide +kernel) rfl rfl rfl ?_)
  refine pr_as 118 (.bool false) rfl (by simp) ?_
  refine prn_end (by decide +kernel) ?_
  refine run_cond rfl (fun h => by cases h) (fun _ => ?_)
  have hM05 := Mem.le_trans hM03 (Mem.le_trans hM4 hM5)
  repeat (first | refine zz ?_ | refine zx fun _ => ?_)
  refine run_cond (t := (opR x ts).1 != 0) rfl (fun h => ?_) (fun h => ?_)
  · have h0 : (opR x ts).1 ≠ 0 := by simpa using h
    obtain rfl := hn4 h0
    repeat (first | refine zz ?_ | refine zx fun _ => ?_ | (refine runL_gT rfl rfl (st_callF rfl (fun _ => alive17_ok _ _ (hk.le hM05))) rfl rfl rfl ?_; rintro _ M6 _ ⟨hM6, rfl, rfl⟩))
    exact run_ret hC (rs := [.tmp 6]) rfl (resT rfl resN) (fun w h => h.dropAll.drop.dropAll) ⟨Mem.le_trans hM05 hM6, rfl, rfl⟩
  have h0 : (opR x ts).1 = 0 := by simpa using h
  obtain ⟨bl, es, rfl, hes, hW⟩ := ho4 h0
  obtain ⟨b, v, N, rs, rfl, rfl, hO, hRs⟩ := ho5 h0
  have hK : Kq M5 bl bd b bo v W N ⟨es, headB firstB ts, (opR x ts).2⟩ ts rs := ⟨hW.le hM5, ⟨hscn.sh, opR_s hscn h0, rfl, hes⟩, es_of hes hRs, hRs.ok, hO, by show (opR x ts).2.room ≤ _; omega⟩
  repeat (first | refine zz ?_ | refine zx fun _ => ?_ | (refine runL_gT rfl rfl (st_callF rfl (fun _ => kqAlike_ok _ _ L bl bd b bo v W N _ ts rs hK (pm_iff.2 fun a => by simp only [kqL, cn_app, cn_cons]; omega))) rfl rfl rfl ?_; rintro _ M6 _ ⟨hM6, rfl, rfl⟩) | (refine runL_gT rfl rfl (st_callF rfl (fun _ => alive17_ok _ _ ((hk.le hM05).le hM6))) rfl rfl rfl ?_; rintro _ M7 _ ⟨hM7, rfl, rfl⟩))
  exact run_ret hC (rs := [.tmp 6]) rfl (resT rfl resN) (fun w h => h.dropAll.drop.dropAll) ⟨Mem.le_trans hM05 (Mem.le_trans hM6 hM7), rfl, rfl⟩
end Go.Proofs.YtkjljcgbnikmkaaGreatDoor
