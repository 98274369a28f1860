import Derived.Test.YtkjljcgbnikmkaaGreatDoorBKA
import Derived.Test.YtkjljcgbnikmkaaGreatDoorRows
import Derived.RangeFuncLeaves
import Derived.RangeFuncRecord
import Derived.Recover
import Derived.Laws.Runes
import Derived.Laws.RangeAny
import Derived.Laws.BytesString
import Derived.Laws.MakeOwn
import Derived.Laws.OwnMore
namespace Go.Proofs.YtkjljcgbnikmkaaGreatDoor
open Go.Chi
noncomputable def tt : TT := [(3, Tryz.t3), (4, Tryz.t4), (9, Tryz.t9), (153, Tryz.t153), (38, Tryz.t38), (35, Tryz.t35), (5, Tryz.t5), (33, Tryz.t33), (26, Tryz.t26), (137, Tryz.t137), (25, Tryz.t25), (32, Tryz.t32), (75, Tryz.t75), (49, Tryz.t49), (29, Tryz.t29), (154, Tryz.t154), (31, Tryz.t31), (141, Tryz.t141), (133, Tryz.t133), (158, Tryz.t158), (98, Tryz.t98), (51, Tryz.t51), (61, Tryz.t61), (120, Tryz.t120), (21, Tryz.t21), (99, Tryz.t99), (81, Tryz.t81), (145, Tryz.t145), (107, Tryz.t107), (70, Tryz.t70), (131, Tryz.t131), (157, Tryz.t157), (143, Tryz.t143), (102, Tryz.t102), (1, Tryz.t1), (166, Tryz.t166), (77, Tryz.t77), (100, Tryz.t100), (37, Tryz.t37), (74, Tryz.t74), (72, Tryz.t72), (22, Tryz.t22), (20, Tryz.t20), (103, Tryz.t103), (147, Tryz.t147), (93, Tryz.t93), (79, Tryz.t79), (115, Tryz.t115), (55, Tryz.t55), (165, Tryz.t165), (69, Tryz.t69), (132, Tryz.t132), (41, Tryz.t41), (177, Tryz.t177), (84, Tryz.t84), (89, Tryz.t89), (112, Tryz.t112), (129, Tryz.t129), (159, Tryz.t159), (173, Tryz.t173), (155, Tryz.t155), (138, Tryz.t138), (176, Tryz.t176), (156, Tryz.t156), (146, Tryz.t146), (142, Tryz.t142), (30, Tryz.t30), (114, Tryz.t114), (106, Tryz.t106), (130, Tryz.t130), (101, Tryz.t101), (97, Tryz.t97), (92, Tryz.t92), (76, Tryz.t76), (78, Tryz.t78), (80, Tryz.t80), (73, Tryz.t73), (68, Tryz.t68), (71, Tryz.t71), (60, Tryz.t60), (34, Tryz.t34), (36, Tryz.t36)]
theorem tok : TOk Tryz.prog tt := TOk.of_all (by
  unfold tt
  refine List.forall_mem_cons.2 ⟨⟨by kernel_rfl, by kernel_rfl, .inl (by kernel_rfl)⟩, ?_⟩
  refine List.forall_mem_cons.2 ⟨⟨by kernel_rfl, by kernel_rfl, .inl (by kernel_rfl)⟩, ?_⟩
  refine List.forall_mem_cons.2 ⟨⟨by kernel_rfl, by kernel_rfl, .inl (by kernel_rfl)⟩, ?_⟩
  refine List.forall_mem_cons.2 ⟨⟨by kernel_rfl, by kernel_rfl, .inl (by kernel_rfl)⟩, ?_⟩
  refine List.forall_mem_cons.2 ⟨⟨by kernel_rfl, by kernel_rfl, .inl (by kernel_rfl)⟩, ?_⟩
  refine List.forall_mem_cons.2 ⟨⟨by kernel_rfl, by kernel_rfl, .inl (by kernel_rfl)⟩, ?_⟩
  refine List.forall_mem_cons.2 ⟨⟨by kernel_rfl, by kernel_rfl, .inl (by kernel_rfl)⟩, ?_⟩
  refine List.forall_mem_cons.2 ⟨⟨by kernel_rfl, by kernel_rfl, .inl (by kernel_rfl)⟩, ?_⟩
  refine List.forall_mem_cons.2 ⟨⟨by kernel_rfl, by kernel_rfl, .inl (by kernel_rfl)⟩, ?_⟩
  refine List.forall_mem_cons.2 ⟨⟨by kernel_rfl, by kernel_rfl, .inl (by kernel_rfl)⟩, ?_⟩
  refine List.forall_mem_cons.2 ⟨⟨by kernel_rfl, by kernel_rfl, .inl (by kernel_rfl)⟩, ?_⟩
  refine List.forall_mem_cons.2 ⟨⟨by kernel_rfl, by kernel_rfl, .inl (by kernel_rfl)⟩, ?_⟩
  refine List.forall_mem_cons.2 ⟨⟨by kernel_rfl, by kernel_rfl, .inl (by kernel_rfl)⟩, ?_⟩
  refine List.forall_mem_cons.2 ⟨⟨by kernel_rfl, by kernel_rfl, .inl (by kernel_rfl)⟩, ?_⟩
  refine List.forall_mem_cons.2 ⟨⟨by kernel_rfl, by kernel_rfl, .inl (by kernel_rfl)⟩, ?_⟩
  refine List.forall_mem_cons.2 ⟨⟨by kernel_rfl, by kernel_rfl, .inl (by kernel_rfl)⟩, ?_⟩
  refine List.forall_mem_cons.2 ⟨⟨by kernel_rfl, by kernel_rfl, .inl (by kernel_rfl)⟩, ?_⟩
  refine List.forall_mem_cons.2 ⟨⟨by kernel_rfl, by kernel_rfl, .inl (by kernel_rfl)⟩, ?_⟩
  refine List.forall_mem_cons.2 ⟨⟨by kernel_rfl, by kernel_rfl, .inl (by kernel_rfl)⟩, ?_⟩
  refine List.forall_mem_cons.2 ⟨⟨by kernel_rfl, by kernel_rfl, .inl (by kernel_rfl)⟩, ?_⟩
  refine List.forall_mem_cons.2 ⟨⟨by kernel_rfl, by kernel_rfl, .inl (by kernel_rfl)⟩, ?_⟩
  refine List.forall_mem_cons.2 ⟨⟨by kernel_rfl, by kernel_rfl, .inl (by kernel_rfl)⟩, ?_⟩
  refine List.forall_mem_cons.2 ⟨⟨by kernel_rfl, by kernel_rfl, .inl (by kernel_rfl)⟩, ?_⟩
  refine List.forall_mem_cons.2 ⟨⟨by kernel_rfl, by kernel_rfl, .inl (by kernel_rfl)⟩, ?_⟩
  refine List.forall_mem_cons.2 ⟨⟨by kernel_rfl, by kernel_rfl, .inl (by kernel_rfl)⟩, ?_⟩
  refine List.forall_mem_cons.2 ⟨⟨by kernel_rfl, by kernel_rfl, .inl (by kernel_rfl)⟩, ?_⟩
  refine List.forall_mem_cons.2 ⟨⟨by kernel_rfl, by kernel_rfl, .inl (by kernel_rfl)⟩, ?_⟩
  refine List.forall_mem_cons.2 ⟨⟨by kernel_rfl, by kernel_rfl, .inl (by kernel_rfl)⟩, ?_⟩
  refine List.forall_mem_cons.2 ⟨⟨by kernel_rfl, by kernel_rfl, .inl (by kernel_rfl)⟩, ?_⟩
  refine List.forall_mem_cons.2 ⟨⟨by kernel_rfl, by kernel_rfl, .inl (by kernel_rfl)⟩, ?_⟩
  refine List.forall_mem_cons.2 ⟨⟨by kernel_rfl, by kernel_rfl, .inr (by kernel_rfl)⟩, ?_⟩
  refine List.forall_mem_cons.2 ⟨⟨by kernel_rfl, by kernel_rfl, .inl (by kernel_rfl)⟩, ?_⟩
  refine List.forall_mem_cons.2 ⟨⟨by kernel_rfl, by kernel_rfl, .inl (by kernel_rfl)⟩, ?_⟩
  refine List.forall_mem_cons.2 ⟨⟨by kernel_rfl, by kernel_rfl, .inl (by kernel_rfl)⟩, ?_⟩
  refine List.forall_mem_cons.2 ⟨⟨by kernel_rfl, by kernel_rfl, .inl (by kernel_rfl)⟩, ?_⟩
  refine List.forall_mem_cons.2 ⟨⟨by kernel_rfl, by kernel_rfl, .inl (by kernel_rfl)⟩, ?_⟩
  refine List.forall_mem_cons.2 ⟨⟨by kernel_rfl, by kernel_rfl, .inl (by kernel_rfl)⟩, ?_⟩
  refine List.forall_mem_cons.2 ⟨⟨by kernel_rfl, by kernel_rfl, .inl (by kernel_rfl)⟩, ?_⟩
  refine List.forall_mem_cons.2 ⟨⟨by kernel_rfl, by kernel_rfl, .inl (by kernel_rfl)⟩, ?_⟩
  refine List.forall_mem_cons.2 ⟨⟨by kernel_rfl, by kernel_rfl, .inl (by kernel_rfl)⟩, ?_⟩
  refine List.forall_mem_cons.2 ⟨⟨by kernel_rfl, by kernel_rfl, .inl (by kernel_rfl)⟩, ?_⟩
  refine List.forall_mem_cons.2 ⟨⟨by kernel_rfl, by kernel_rfl, .inl (by kernel_rfl)⟩, ?_⟩
  refine List.forall_mem_cons.2 ⟨⟨by kernel_rfl, by kernel_rfl, .inr (by kernel_rfl)⟩, ?_⟩
  refine List.forall_mem_cons.2 ⟨⟨by kernel_rfl, by kernel_rfl, .inl (by kernel_rfl)⟩, ?_⟩
  refine List.forall_mem_cons.2 ⟨⟨by kernel_rfl, by kernel_rfl, .inl (by kernel_rfl)⟩, ?_⟩
  refine List.forall_mem_cons.2 ⟨⟨by kernel_rfl, by kernel_rfl, .inl (by kernel_rfl)⟩, ?_⟩
  refine List.forall_mem_cons.2 ⟨⟨by kernel_rfl, by kernel_rfl, .inl (by kernel_rfl)⟩, ?_⟩
  refine List.forall_mem_cons.2 ⟨⟨by kernel_rfl, by kernel_rfl, .inl (by kernel_rfl)⟩, ?_⟩
  refine List.forall_mem_cons.2 ⟨⟨by kernel_rfl, by kernel_rfl, .inl (by kernel_rfl)⟩, ?_⟩
  refine List.forall_mem_cons.2 ⟨⟨by kernel_rfl, by kernel_rfl, .inl (by kernel_rfl)⟩, ?_⟩
  refine List.forall_mem_cons.2 ⟨⟨by kernel_rfl, by kernel_rfl, .inl (by kernel_rfl)⟩, ?_⟩
  refine List.forall_mem_cons.2 ⟨⟨by kernel_rfl, by kernel_rfl, .inl (by kernel_rfl)⟩, ?_⟩
  refine List.forall_mem_cons.2 ⟨⟨by kernel_rfl, by kernel_rfl, .inl (by kernel_rfl)⟩, ?_⟩
  refine List.forall_mem_cons.2 ⟨⟨by kernel_rfl, by kernel_rfl, .inl (by kernel_rfl)⟩, ?_⟩
  refine List.forall_mem_cons.2 ⟨⟨by kernel_rfl, by kernel_rfl, .inl (by kernel_rfl)⟩, ?_⟩
  refine List.forall_mem_cons.2 ⟨⟨by kernel_rfl, by kernel_rfl, .inl (by kernel_rfl)⟩, ?_⟩
  refine List.forall_mem_cons.2 ⟨⟨by kernel_rfl, by kernel_rfl, .inl (by kernel_rfl)⟩, ?_⟩
  refine List.forall_mem_cons.2 ⟨⟨by kernel_rfl, by kernel_rfl, .inl (by kernel_rfl)⟩, ?_⟩
  refine List.forall_mem_cons.2 ⟨⟨by kernel_rfl, by kernel_rfl, .inl (by kernel_rfl)⟩, ?_⟩
  refine List.forall_mem_cons.2 ⟨⟨by kernel_rfl, by kernel_rfl, .inl (by kernel_rfl)⟩, ?_⟩
  refine List.forall_mem_cons.2 ⟨⟨by kernel_rfl, by kernel_rfl, .inl (by kernel_rfl)⟩, ?_⟩
  refine List.forall_mem_cons.2 ⟨⟨by kernel_rfl, by kernel_rfl, .inl (by kernel_rfl)⟩, ?_⟩
  refine List.forall_mem_cons.2 ⟨⟨by kernel_rfl, by kernel_rfl, .inl (by kernel_rfl)⟩, ?_⟩
  refine List.forall_mem_cons.2 ⟨⟨by kernel_rfl, by kernel_rfl, .inl (by kernel_rfl)⟩, ?_⟩
  refine List.forall_mem_cons.2 ⟨⟨by kernel_rfl, by kernel_rfl, .inl (by kernel_rfl)⟩, ?_⟩
  refine List.forall_mem_cons.2 ⟨⟨by kernel_rfl, by kernel_rfl, .inl (by kernel_rfl)⟩, ?_⟩
  refine List.forall_mem_cons.2 ⟨⟨by kernel_rfl, by kernel_rfl, .inl (by kernel_rfl)⟩, ?_⟩
  refine List.forall_mem_cons.2 ⟨⟨by kernel_rfl, by kernel_rfl, .inl (by kernel_rfl)⟩, ?_⟩
  refine List.forall_mem_cons.2 ⟨⟨by kernel_rfl, by kernel_rfl, .inl (by kernel_rfl)⟩, ?_⟩
  refine List.forall_mem_cons.2 ⟨⟨by kernel_rfl, by kernel_rfl, .inr (by kernel_rfl)⟩, ?_⟩
  refine List.forall_mem_cons.2 ⟨⟨by kernel_rfl, by kernel_rfl, .inl (by kernel_rfl)⟩, ?_⟩
  refine List.forall_mem_cons.2 ⟨⟨by kernel_rfl, by kernel_rfl, .inl (by kernel_rfl)⟩, ?_⟩
  refine List.forall_mem_cons.2 ⟨⟨by kernel_rfl, by kernel_rfl, .inl (by kernel_rfl)⟩, ?_⟩
  refine List.forall_mem_cons.2 ⟨⟨by kernel_rfl, by kernel_rfl, .inl (by kernel_rfl)⟩, ?_⟩
  refine List.forall_mem_cons.2 ⟨⟨by kernel_rfl, by kernel_rfl, .inl (by kernel_rfl)⟩, ?_⟩
  refine List.forall_mem_cons.2 ⟨⟨by kernel_rfl, by kernel_rfl, .inl (by kernel_rfl)⟩, ?_⟩
  refine List.forall_mem_cons.2 ⟨⟨by kernel_rfl, by kernel_rfl, .inl (by kernel_rfl)⟩, ?_⟩
  refine List.forall_mem_cons.2 ⟨⟨by kernel_rfl, by kernel_rfl, .inl (by kernel_rfl)⟩, ?_⟩
  refine List.forall_mem_cons.2 ⟨⟨by kernel_rfl, by kernel_rfl, .inl (by kernel_rfl)⟩, ?_⟩
  refine List.forall_mem_cons.2 ⟨⟨by kernel_rfl, by kernel_rfl, .inl (by kernel_rfl)⟩, ?_⟩
  refine List.forall_mem_cons.2 ⟨⟨by kernel_rfl, by kernel_rfl, .inl (by kernel_rfl)⟩, ?_⟩
  refine List.forall_mem_cons.2 ⟨⟨by kernel_rfl, by kernel_rfl, .inl (by kernel_rfl)⟩, ?_⟩
  exact fun x hx => by cases hx)
theorem mixed : Tryz.prog.follows .mixedOrders = true := by kernel_rfl
end Go.Proofs.YtkjljcgbnikmkaaGreatDoor
namespace Go.Proofs.YtkjljcgbnikmkaaGreatDoor
open Go.Chi
/-! ### the walk's steps over this program's table of types: what evaluation shows is shown of itself -/
section
variable {C : Cx} {n : Nat} {k : List Item} {ds : List Deferred} {σ : Env} {δ : Den} {M : Mem} {L L' : HL} {ops : Array Oper} {X : List Nat} {d i : Nat} {op : Op} {ty : TypeId} {pos : String} {aft : Array Edge} {l : List Oper} {v u : Value} {j s : Nat} {want c : Bool} {p : Path} {t : TypeId} {x y : Operand} {b off sz : Nat} {cs cs' : List Value} {et : TypeId}
theorem wq (h : RunL Tryz.prog C n ops l k ds ((d, v) :: σ) δ M L)
    (hst : Qt Tryz.prog C.b.roundOf ⟨some d, op, ty, pos, aft, none⟩ σ δ [] M L v := by first | refine qt_pev tok rfl | refine ql tok rfl)
    (hd : Nat.blt d n = true := by exact rfl) (hn : lkd δ d = none := by exact rfl) (hu : unNamed δ d = true := by exact rfl) : RunL Tryz.prog C n ops (⟨some d, op, ty, pos, aft, none⟩ :: l) k ds σ δ M L := runL_q hst hd hn hu h
theorem wg (h : RunL Tryz.prog C n ops l k ds σ ((d, (s, want) :: p, v) :: δ) M L)
    (hj : slotOf ops j = some s := by exact rfl) (hg : lkg σ δ s = some (p, .bool c) := by exact rfl)
    (hst : Qt Tryz.prog C.b.roundOf ⟨some d, op, ty, pos, aft, some (j, want)⟩ σ δ ((s, want) :: p) M L v := by first | refine qt_pev tok rfl | refine ql tok rfl)
    (hd : Nat.blt d n = true := by exact rfl) (hn : lkd δ d = none := by exact rfl) (hsd : lks σ d = none := by exact rfl) (hu : unNamed δ d = true := by exact rfl) (hp : unP ((s, want) :: p) d = true := by exact rfl) : RunL Tryz.prog C n ops (⟨some d, op, ty, pos, aft, some (j, want)⟩ :: l) k ds σ δ M L := runL_g hj hg hst hd hn hsd hu hp h
theorem wgK (h : RunL Tryz.prog C n ops l k ds ((d, v) :: σ) δ M L)
    (hj : slotOf ops j = some s := by exact rfl) (hg : knows σ s want = true := by exact rfl)
    (hst : Qt Tryz.prog C.b.roundOf ⟨some d, op, ty, pos, aft, some (j, want)⟩ σ δ [] M L v := by first | refine qt_pev tok rfl | refine ql tok rfl)
    (hd : Nat.blt d n = true := by exact rfl) (hn : lkd δ d = none := by exact rfl) (hu : unNamed δ d = true := by exact rfl) : RunL Tryz.prog C n ops (⟨some d, op, ty, pos, aft, some (j, want)⟩ :: l) k ds σ δ M L := runL_gK hj hg hst hd hn hu h
theorem wgF (h : RunL Tryz.prog C n ops l k ds ((d, undef) :: σ) δ M L)
    (hj : slotOf ops j = some s := by exact rfl) (hg : knows σ s (!want) = true := by exact rfl)
    (hd : Nat.blt d n = true := by exact rfl) (hn : lkd δ d = none := by exact rfl) (hu : unNamed δ d = true := by exact rfl) : RunL Tryz.prog C n ops (⟨some d, op, ty, pos, aft, some (j, want)⟩ :: l) k ds σ δ M L := runL_gF hj hg hd hn hu h
theorem ws (h : RunL Tryz.prog C n ops l k ds σ δ M L') (hx : ev σ δ [] x = some (.pointer (some ⟨b, off, none⟩)) := by exact rfl) (hy : ev σ δ [] y = some v := by exact rfl)
    (hi : sizeT tt t = some sz := by exact rfl) (hl : (cellsL v).length = sz := by exact rfl) (h1 : oneL (cellsL v) = true := by exact rfl)
    (hu : Upd L b (.cells ⟨cs⟩ et (0, 0)) (.cells ⟨cs'⟩ et (0, 0)) L' := by (repeat (first | with_reducible apply Upd.here | with_reducible apply Upd.there | with_reducible apply Upd.append_left))) (hcs : setE cs off (cellsL v) = some cs' := by exact rfl) :
    RunL Tryz.prog C n ops (⟨none, .store t x y, ty, pos, aft, none⟩ :: l) k ds σ δ M L := runL_op0 (sst tok hx hy hi hl h1 hu hcs) (by rintro _ _ _ ⟨rfl, rfl, rfl⟩; exact h)
theorem wb (h : ∀ b, RunL Tryz.prog C n ops l k ds ((d, .pointer (some ⟨b, 0, none⟩)) :: σ) δ M ((b, .cells ⟨cellsL v⟩ t (0, 0)) :: L)) (hx : ev σ δ [] x = some v := by exact rfl)
    (hd : Nat.blt d n = true := by exact rfl) (hn : lkd δ d = none := by exact rfl) (hu : unNamed δ d = true := by exact rfl) : RunL Tryz.prog C n ops (⟨some d, .box t x, ty, pos, aft, none⟩ :: l) k ds σ δ M L :=
  runL_op (st_box hx) hd hn hu (by rintro _ _ _ ⟨b, rfl, rfl, rfl⟩; exact h b)
theorem wa (h : ∀ b, RunL Tryz.prog C n ops l k ds ((d, .pointer (some ⟨b, 0, none⟩)) :: σ) δ M ((b, .cells ⟨cellsL v⟩ t (0, 0)) :: L)) (hz : zeroT tt t = some v := by exact rfl)
    (hd : Nat.blt d n = true := by exact rfl) (hn : lkd δ d = none := by exact rfl) (hu : unNamed δ d = true := by exact rfl) : RunL Tryz.prog C n ops (⟨some d, .alloc t, ty, pos, aft, none⟩ :: l) k ds σ δ M L :=
  runL_op (st_alloc tok hz) hd hn hu (by rintro _ _ _ ⟨b, rfl, rfl, rfl⟩; exact h b)
theorem wl {e len : Nat} {z : Value} {parts : Array (Nat × Operand)} {ps : List (Nat × Value)} (h : ∀ b, RunL Tryz.prog C n ops l k ds ((d, .slice (some ⟨b, 0, none⟩) len len) :: σ) δ M ((b, .cells ⟨flatParts ps⟩ e (0, 0)) :: L))
    (ht : und tt t = some (.slice e) := by exact rfl) (hi : sizeT tt e = some sz := by exact rfl) (hz : zeroT tt e = some z := by exact rfl)
    (hx : evParts σ δ [] parts.toList = some ps := by exact rfl) (hseq : seqParts sz 0 ps = true := by exact rfl) (hl : ps.length = len := by exact rfl) (hsz : Nat.ble (len * sz) 16777216 = true := by exact rfl)
    (hd : Nat.blt d n = true := by exact rfl) (hn : lkd δ d = none := by exact rfl) (hu : unNamed δ d = true := by exact rfl) : RunL Tryz.prog C n ops (⟨some d, .buildSlice t len parts, ty, pos, aft, none⟩ :: l) k ds σ δ M L :=
  runL_op (st_buildSlice tok ht hi hz hx hseq hl hsz) hd hn hu (by rintro _ _ _ ⟨b, rfl, rfl, rfl⟩; exact h b)
/-! in a region that draws -/
theorem dq (h : PR Tryz.prog C n ops k ds (dn (i + 1)) X ((d, v) :: σ) δ M L) (ho : ops[i]? = some ⟨some d, op, ty, pos, aft, none⟩ := by exact rfl)
    (hst : Qt Tryz.prog C.b.roundOf ⟨some d, op, ty, pos, aft, none⟩ σ δ [] M L v := by first | refine qt_pev tok rfl | refine ql tok rfl)
    (hchk : chkQ ops (dn i) i = true := by decide +kernel) (hd : Nat.blt d n = true := by exact rfl) (hn : lkd δ d = none := by exact rfl) (hu : unNamed δ d = true := by exact rfl) : PR Tryz.prog C n ops k ds (dn i) X σ δ M L := prn_q ho hst hchk hd hn hu h
theorem dg (h : PR Tryz.prog C n ops k ds (dn (i + 1)) X σ ((d, (s, want) :: p, v) :: δ) M L) (ho : ops[i]? = some ⟨some d, op, ty, pos, aft, some (j, want)⟩ := by exact rfl)
    (hj : slotOf ops j = some s := by exact rfl) (hg : lkg σ δ s = some (p, .bool c) := by exact rfl)
    (hst : Qt Tryz.prog C.b.roundOf ⟨some d, op, ty, pos, aft, some (j, want)⟩ σ δ ((s, want) :: p) M L v := by first | refine qt_pev tok rfl | refine ql tok rfl)
    (hchk : chkQ ops (dn i) i = true := by decide +kernel) (hd : Nat.blt d n = true := by exact rfl) (hn : lkd δ d = none := by exact rfl) (hsd : lks σ d = none := by exact rfl) (hu : unNamed δ d = true := by exact rfl) (hp : unP ((s, want) :: p) d = true := by exact rfl) : PR Tryz.prog C n ops k ds (dn i) X σ δ M L := prn_g ho hj hg hst hchk hd hn hsd hu hp h
theorem dgK (h : PR Tryz.prog C n ops k ds (dn (i + 1)) X ((d, v) :: σ) δ M L) (ho : ops[i]? = some ⟨some d, op, ty, pos, aft, some (j, want)⟩ := by exact rfl)
    (hj : slotOf ops j = some s := by exact rfl) (hg : knows σ s want = true := by exact rfl)
    (hst : Qt Tryz.prog C.b.roundOf ⟨some d, op, ty, pos, aft, some (j, want)⟩ σ δ [] M L v := by first | refine qt_pev tok rfl | refine ql tok rfl)
    (hchk : chkQ ops (dn i) i = true := by decide +kernel) (hd : Nat.blt d n = true := by exact rfl) (hn : lkd δ d = none := by exact rfl) (hu : unNamed δ d = true := by exact rfl) : PR Tryz.prog C n ops k ds (dn i) X σ δ M L := prn_gK ho hj hg hst hchk hd hn hu h
end
end Go.Proofs.YtkjljcgbnikmkaaGreatDoor
namespace Go.Chi
open Go.ChangeShapes Go.WideShapes
theorem trod3 {H : Type} {enc : TypeId × Value → H} {P : Program} {w : World} {base : Nat} {spare : Nat → Bool} {held : Bool} {t t' t'' : TypeId} {args : Array Value} {ds : List (DataW H)} {ps : List MemPlace} (h : DataW.TrodAll enc P w base spare held [t, t', t''] args.toList ds ps) :
    ∃ v v' v'' d d' d'' p p' p'', args = #[v, v', v''] ∧ ds = [d, d', d''] ∧ DataW.Trod enc P w base spare held t v d p ∧ DataW.Trod enc P w base spare held t' v' d' p' ∧ DataW.Trod enc P w base spare held t'' v'' d'' p'' := by
  obtain ⟨v, vs, d, ds', p, q, hargs, rfl, rfl, hd, hrest⟩ := trodAll_cons h
  obtain ⟨v', vs', d', ds'', p', q', rfl, rfl, rfl, hd', hrest'⟩ := trodAll_cons hrest
  obtain ⟨v'', vs'', d'', ds''', p'', q'', rfl, rfl, rfl, hd'', hrest''⟩ := trodAll_cons hrest'
  obtain ⟨rfl, rfl, rfl⟩ := trodAll_nil hrest''
  exact ⟨v, v', v'', d, d', d'', p, p', p'', by cases args; simp_all, rfl, hd, hd', hd''⟩
end Go.Chi
namespace Go.Chi

/-- function g, called with yield, hands it xs, one behind the other, as long as it says yes; what is kept between two of them stays so, if more is known for good -/
def IterM (P : Program) (g : FuncId) (caps : List Value) (M : Mem) (xs : List (List Value)) : Prop :=
  ∀ (l : Nat) (I X : Nat → Mem → HL → Prop) (M0 : Mem) (L0 : HL), M.le M0 → (∀ k M1 M2 L1, M1.le M2 → I k M1 L1 → I k M2 L1) →
    (∀ k x M1 L1 F, xs[k]? = some x → M0.le M1 → I k M1 L1 → YieldTo P l x M1 (F ++ L1) (fun v M2 Lt => ∃ L2, Lt = F ++ L2 ∧ M1.le M2 ∧ ((v = .bool true ∧ I (k + 1) M2 L2) ∨ (v = .bool false ∧ X k M2 L2)))) →
    I 0 M0 L0 →
    Tr P g (yv l :: caps) M0 L0 (fun _ M2 Lt => M0.le M2 ∧ (I xs.length M2 Lt ∨ ∃ k, X k M2 Lt))
theorem IterM.le {P : Program} {g : FuncId} {caps : List Value} {M M' : Mem} {xs : List (List Value)} (h : IterM P g caps M xs) (hm : M.le M') : IterM P g caps M' xs :=
  fun l I X M0 L0 hle => h l I X M0 L0 (Mem.le_trans hm hle)

/-- the statement -/
theorem run_rangeM {P : Program} {C : Cx} {n : Nat} {k : List Item} {ds : List Deferred} {σ : Env} {M : Mem} {L : HL} {f : Operand} {ps : Array Tmp} {assign body : Code} {g : FuncId} {caps : Array Value} {xs : List (List Value)}
    (hro : C.b.roundOf = none) (hf : ev σ [] [] f = some (.func (.func g) #[] caps)) (hit : IterM P g caps.toList M xs)
    (hps : ps.toList.all (fun p => Nat.blt p n) = true) (hxs : ∀ x ∈ xs, x.length = ps.size)
    (I : Nat → Mem → HL → Prop) (X : Code → Nat → Mem → HL → Prop) (hmono : ∀ k M1 M2 L1, M1.le M2 → I k M1 L1 → I k M2 L1) (h0 : I 0 M L)
    (hbody : ∀ j x M1 L1 R R' C', xs[j]? = some x → M.le M1 → I j M1 L1 → RdB P C' n M1 R R' (I (j + 1)) (fun c => X c j) → Run P C' n [.code assign, .beginRound, .code body] [] (setPs ps.toList x σ) M1 (L1 ++ R))
    (hdone : ∀ D M2 L2, M.le M2 → I xs.length M2 L2 → Run P C n k (⟨.collected D, #[]⟩ :: ds) σ M2 ((D, .deferred (some [])) :: L2))
    (hjump : ∀ c j D M2 L2, M.le M2 → X c j M2 L2 → Run P C n (.code c :: k) (⟨.collected D, #[]⟩ :: ds) σ M2 ((D, .deferred (some [])) :: L2)) :
    Run P C n (.code (.rangeFunc f ps assign body) :: k) ds σ M L := fun a w h1 h2 h3 h4 => by
  obtain ⟨rec, hrec⟩ : ∃ rec : LoopState → Option Code → Loop, rec = fun st pe => { state := st, pending := pe, fn := C.b.fn, tmps := a.tmps, params := ps, assign, body, defers := w.heap.size } := ⟨_, rfl⟩
  have hent := run_enterLoop_outer (P := P) (w := w) C.b.fn a.tmps ps assign body
  have hp1 : Hp M ((w.heap.size + 1, .loop (rec .ready none)) :: (w.heap.size, .deferred (some [])) :: L) ((w.alloc (.deferred (some []))).alloc (.loop (rec .ready none))) := by
    have a1 := h4.push (.deferred (some []))
    have a2 := a1.push (.loop (rec .ready none))
    simp only [Array.size_push] at a2
    exact a2
  have hlp : w.heap.size + 1 ≠ w.heap.size := by omega
  -- what the caller's memory is, between two rounds
  let I' : Nat → Mem → HL → Prop := fun j M' L' => M.le M' ∧ ∃ L1, L' = (w.heap.size + 1, .loop (rec .ready none)) :: (w.heap.size, .deferred (some [])) :: L1 ∧ I j M' L1
  let X' : Nat → Mem → HL → Prop := fun j M' L' => M.le M' ∧ ∃ c L1, L' = (w.heap.size + 1, .loop (rec .done (some c))) :: (w.heap.size, .deferred (some [])) :: L1 ∧ X c j M' L1
  have htr := hit (w.heap.size + 1) I' X' M ((w.heap.size + 1, .loop (rec .ready none)) :: (w.heap.size, .deferred (some [])) :: L) (Mem.le_refl M) (fun k M1 M2 L1 hle ⟨h1, L2, h2, h3⟩ => ⟨Mem.le_trans h1 hle, L2, h2, hmono k M1 M2 L2 hle h3⟩) ?body ⟨Mem.le_refl M, L, rfl, h0⟩
  case body =>
    rintro j x M1 L1' F hx hM1 ⟨_, L1, rfl, hI⟩ w1 hw1
    have hl : w1.heap[w.heap.size + 1]? = some (.loop (rec .ready none)) := hw1.own (w.heap.size + 1, .loop (rec .ready none)) (by simp)
    have hlen : x.length = ps.size := hxs x (List.mem_of_getElem? hx)
    rw [run_yield (P := P) (args := ⟨x⟩) hl (by rw [hrec]; simpa using hlen)]
    show Rd P _ _ _ _ _ w1 _
    intro c cs
    let b : Frame := { (default : Frame) with fn := (rec .ready none).fn, kind := .normal, roundOf := some (w.heap.size + 1) }
    obtain ⟨hsee, hsz⟩ := sees_setPs (n := n) ps.toList x σ a.tmps [] (fun p hp => Nat.blt_eq.mp (List.all_eq_true.1 hps p hp)) h1 (by simpa using hlen.symm) ⟨h3.s, h3.d⟩
    have htm : (((rec .ready none).params.zip ⟨x⟩).foldl (fun (tmps : Array Value) (y : Nat × Value) => tmps.setIfInBounds y.1 y.2) (rec .ready none).tmps) = (ps.toList.zip x).foldl (fun t y => t.setIfInBounds y.1 y.2) a.tmps := by
      rw [hrec]
      rw [← Array.foldl_toList, Array.toList_zip]
    have hfr : Frame.round (w.heap.size + 1) (rec .ready none).fn (((rec .ready none).params.zip ⟨x⟩).foldl (fun (tmps : Array Value) (y : Nat × Value) => tmps.setIfInBounds y.1 y.2) (rec .ready none).tmps) (rec .ready none).assign (rec .ready none).body .normal =
        b.atR ⟨(ps.toList.zip x).foldl (fun t y => t.setIfInBounds y.1 y.2) a.tmps, []⟩ [.code assign, .beginRound, .code body] := by
      rw [htm]; simp [Frame.round, Frame.atR, b, hrec]
    let K : Value → Mem → HL → Prop := fun v M2 Lt => ∃ L2, Lt = F ++ L2 ∧ M1.le M2 ∧ ((v = .bool true ∧ I' (j + 1) M2 L2) ∨ (v = .bool false ∧ X' j M2 L2))
    let Φ : Frame → World → Prop := fun fr w2 => ∃ v w', ∃ M' L', Hp M' L' w' ∧ K v M' L' ∧ step P (lone fr (c :: cs) w2) = .next (lone (c.finish v) cs w')
    have hC : RdCx P (w.heap.size + 1) K ⟨b, c :: cs, Φ⟩ := ⟨rfl, rfl, c, cs, rfl, rfl⟩
    have hMM : M.le M1 := hM1
    -- the round's frame, with the loop's record behind
    have perm1 : ∀ (o : Obj) (L2 : HL), (L2 ++ ((w.heap.size + 1, o) :: (w.heap.size, .deferred (some [])) :: F)).Perm (F ++ ((w.heap.size + 1, o) :: (w.heap.size, .deferred (some [])) :: L2)) := fun o L2 => by
      refine List.perm_append_comm.trans ?_
      refine List.Perm.trans ?_ List.perm_append_comm
      simp only [List.cons_append]
      refine List.Perm.cons _ (List.Perm.cons _ ?_)
      exact List.perm_append_comm
    have upd : ∀ (o o' : Obj) (L2 : HL), Upd (F ++ ((w.heap.size + 1, o) :: (w.heap.size, .deferred (some [])) :: L2)) (w.heap.size + 1) o o' (F ++ ((w.heap.size + 1, o') :: (w.heap.size, .deferred (some [])) :: L2)) :=
      fun o o' L2 => (Upd.here _ _ _ _).append_left F
    have hb := hbody j x M1 L1 ((w.heap.size + 1, .loop (rec .ready none)) :: (w.heap.size, .deferred (some [])) :: F) ((w.heap.size + 1, .loop (rec .busy none)) :: (w.heap.size, .deferred (some [])) :: F) ⟨b, c :: cs, Φ⟩ hx hMM hI {
      begin_ := fun k σ M L2 h => by
        refine run_perm (perm1 _ L2) ?_
        refine rd_begin hC (r := rec .ready none) (upd _ _ L2) (by rw [hrec]) ?_
        refine run_perm (perm1 _ L2).symm ?_
        rw [hrec] at h ⊢
        exact h
      fin := fun σ M2 L2 hM2 hJ => by
        refine run_perm (perm1 _ L2) ?_
        refine rd_end hC (r := rec .busy none) (upd _ _ L2) ?_
        refine ⟨_, rfl, hM2, .inl ⟨rfl, Mem.le_trans hMM hM2, L2, ?_, hJ⟩⟩
        rw [hrec]
      ret := fun k σ M2 L2 hM2 hX => by
        refine run_perm (perm1 _ L2) ?_
        refine rd_ret hC (r := rec .busy none) (upd _ _ L2) ?_
        refine ⟨_, rfl, hM2, .inr ⟨rfl, Mem.le_trans hMM hM2, .ret, L2, ?_, hX⟩⟩
        rw [hrec]
      exit := fun id k σ M2 L2 hx hM2 hX => by
        refine run_perm (perm1 _ L2) ?_
        refine rd_exit hC (r := rec .busy none) hx (upd _ _ L2) ?_
        refine ⟨_, rfl, hM2, .inr ⟨rfl, Mem.le_trans hMM hM2, .exit id, L2, ?_, hX⟩⟩
        rw [hrec] }
    obtain ⟨fr', w2, hs, v, w3, M', L', hp3, hK, hstep⟩ := hb _ w1 hsz rfl hsee (hw1.perm (perm1 _ L1).symm)
    rw [hfr]
    exact ⟨v, w3, ⟨M', L', hp3, hK⟩, hs.trans (.one hstep)⟩
  -- the call
  have hres : (resolve a.eval (rangeCall f (w.heap.size + 1)) 0).run P ((w.alloc (.deferred (some []))).alloc (.loop (rec .ready none))) = .ok { target := .fn (.func g) caps, args := #[yv (w.heap.size + 1)] } ((w.alloc (.deferred (some []))).alloc (.loop (rec .ready none))) := by
    have h5 := ev_sound h3 (holds_nil a) hf
    have h6 : (#[Operand.const (.func (.yield (w.heap.size + 1)) #[] #[])] : Array Operand).map a.eval = #[yv (w.heap.size + 1)] := by simp [Act.eval, yv]
    simp only [resolve, h5, h6, Deferred.ofValue, Sem.run_pure]
    simp
  have hinv : (invoke (.fn (.func g) caps) #[yv (w.heap.size + 1)]).run P ((w.alloc (.deferred (some []))).alloc (.loop (rec .ready none))) = .ok (.enter g ⟨yv (w.heap.size + 1) :: caps.toList⟩) ((w.alloc (.deferred (some []))).alloc (.loop (rec .ready none))) := by
    have e : (#[yv (w.heap.size + 1)] ++ caps : Array Value) = ⟨yv (w.heap.size + 1) :: caps.toList⟩ := by apply Array.ext'; simp
    simp only [invoke, e]
    exact htr.1 _
  have henter := stepR_rangeFunc (P := P) (b := C.b) (a := a) (k := k) (cs := C.cs) (w := w) (g := f) (ps := ps) (assign := assign) (body := body) (by rw [hro]; exact hent) (by rw [hrec] at hres; exact hres) (by rw [hrec] at hinv; exact hinv)
  obtain ⟨v, w2, fr, ⟨M2, Lt, hp2, hM2, hend⟩, hsteps, _, hleave⟩ := htr.2 _ hp1 (C.b.atR { a with defers := [{ target := .collected w.heap.size, args := #[] }] ++ a.defers } (.inRangeFunc (w.heap.size + 1) :: k) :: C.cs)
  have hback : Steps P (lone (C.b.atR a (.code (.rangeFunc f ps assign body) :: k)) C.cs w) (lone (C.b.atR { a with defers := [{ target := .collected w.heap.size, args := #[] }] ++ a.defers } (.endRangeFunc (w.heap.size + 1) :: k)) C.cs w2) := by
    refine .head henter ?_
    rw [hrec] at hsteps
    refine hsteps.trans (.one ?_)
    rw [← finish_atR_inRangeFunc (w.heap.size + 1) v]
    exact step_leave_returned hleave
  refine J.steps hback ?_
  have hds : ({ a with defers := [{ target := .collected w.heap.size, args := #[] }] ++ a.defers } : Act).defers = ⟨.collected w.heap.size, #[]⟩ :: ds := by simp [h2]
  have hs' : Sees σ [] ({ a with defers := [{ target := .collected w.heap.size, args := #[] }] ++ a.defers } : Act) := ⟨h3.s, h3.d⟩
  rcases hend with ⟨_, L2, rfl, hI⟩ | ⟨j, _, c, L2, rfl, hX⟩
  · have hl2 := hp2.own (w.heap.size + 1, .loop (rec .ready none)) (by simp)
    have hel := run_endLoop (P := P) hl2 (by rw [hrec]; simp)
    refine J.step (stepR_endRangeFunc hel) ?_
    have hpe : (rec .ready none).pending = none := by rw [hrec]
    rw [hpe]
    refine hdone w.heap.size M2 L2 hM2 hI _ _ h1 hds hs' ?_
    exact (hp2.putObj (Upd.here _ _ _ _)).drop
  · have hl2 := hp2.own (w.heap.size + 1, .loop (rec .done (some c))) (by simp)
    have hel := run_endLoop (P := P) hl2 (by rw [hrec]; simp)
    refine J.step (stepR_endRangeFunc hel) ?_
    have hpe : (rec .done (some c)).pending = some c := by rw [hrec]
    rw [hpe]
    refine hjump c j w.heap.size M2 L2 hM2 hX _ _ h1 hds hs' ?_
    exact (hp2.putObj (Upd.here _ _ _ _)).drop

end Go.Chi
namespace Go.Chi

/-! ### functions that may panic, and what they put off till their end -/
/-- a frame that runs no longer, in the mode u, with ds put off -/
def RunX (P : Program) (C : Cx) (n : Nat) (u : FrameMode) (ds : List Deferred) (σ : Env) (M : Mem) (L : HL) : Prop :=
  ∀ a w k, a.tmps.size = n → a.defers = ds → Sees σ [] a → Hp M L w → J P C.cs C.Φ { C.b.atR a k with mode := u } w

/-- a call comes to an end -/
def FnE (P : Program) (f : FuncId) (args : Array Value) (w : World) (R : Ending → World → Prop) : Prop :=
  ∀ cs, ∃ e w' fr, R e w' ∧ e ≠ .outgrown ∧ Steps P (lone (Frame.enter P f args .normal) cs w) (lone fr cs w') ∧ fr.fn = f ∧ fr.leaving P w' e
def TrE (P : Program) (f : FuncId) (args : List Value) (M : Mem) (L : HL) (K : Ending → Mem → HL → Prop) : Prop :=
  (∀ w, (callFunc f ⟨args⟩).run P w = .ok (.enter f ⟨args⟩) w) ∧ ∀ w, Hp M L w → FnE P f ⟨args⟩ w (fun e w' => ∃ M' L', Hp M' L' w' ∧ K e M' L')
def PhiE (P : Program) (f : FuncId) (K : Ending → Mem → HL → Prop) : Frame → World → Prop := fun fr w => ∃ e M L, Hp M L w ∧ K e M L ∧ e ≠ .outgrown ∧ fr.fn = f ∧ fr.leaving P w e
structure FnCxE (P : Program) (f : FuncId) (fn : Func) (K : Ending → Mem → HL → Prop) (C : Cx) : Prop where
  fnn : P.funcs[f]? = some fn
  b : C.b.fn = f
  kind : C.b.kind = .normal
  ro : C.b.roundOf = none
  phi : C.Φ = PhiE P f K
theorem TrE.intro {P : Program} {f : FuncId} {fn : Func} {c : Code} {args : List Value} {M : Mem} {L : HL} {K : Ending → Mem → HL → Prop} (n : Nat) (hf : P.funcs[f]? = some fn) (hb : fn.body = some c) (hn : fn.ntmps = n) (hc : ∀ args w, (callFunc f args).run P w = .ok (.enter f args) w)
    (ha : Nat.ble args.length n = true) (h : ∀ C, FnCxE P f fn K C → C.b.roundOf = none → Run P C n [.code c] [] (argEnv 0 args) M L) : TrE P f args M L K := by
  refine ⟨fun w => hc _ w, fun w hw cs => ?_⟩
  have ha := Nat.le_of_ble_eq_true ha
  let b : Frame := { (default : Frame) with fn := f, kind := .normal, roundOf := none }
  have henter : Frame.enter P f ⟨args⟩ .normal = b.atR { tmps := ⟨args⟩ ++ Array.replicate (n - args.length) undef, defers := [] } [.code c] := by
    simp [Frame.enter, Frame.atR, hf, hb, hn, b]
  have hrun := h ⟨b, cs, PhiE P f K⟩ ⟨hf, rfl, rfl, rfl, rfl⟩ rfl { tmps := ⟨args⟩ ++ Array.replicate (n - args.length) undef, defers := [] } w (by simp; omega) rfl
    ⟨fun t v e => by
      obtain ⟨_, h2⟩ := argEnv_lks e
      simp only [Nat.sub_zero] at h2
      have hlt : t < args.length := (List.getElem?_eq_some_iff.1 h2).1
      rw [Array.getElem?_append, if_pos (by simpa using hlt)]
      simpa using h2, fun t p v e => by simp [lkd] at e⟩ hw
  obtain ⟨fr', w', hs, e, M', L', h1, h2, h3, h4, h5⟩ := hrun
  rw [henter]
  exact ⟨e, w', fr', ⟨M', L', h1, h2⟩, h3, hs, h4, h5⟩
theorem TrE.tr {P : Program} {f : FuncId} {args : List Value} {M : Mem} {L : HL} {K : Ending → Mem → HL → Prop} {K' : Value → Mem → HL → Prop} (h : TrE P f args M L K) (hk : ∀ e M' L', K e M' L' → ∃ v, e = .returned v ∧ K' v M' L') : Tr P f args M L K' :=
  ⟨h.1, fun w hw cs => by
    obtain ⟨e, w', fr, ⟨M', L', hp, hK⟩, _, hs, hfn, hl⟩ := h.2 w hw cs
    obtain ⟨v, rfl, hK'⟩ := hk e M' L' hK
    exact ⟨v, w', fr, ⟨M', L', hp, hK'⟩, hs, hfn, hl⟩⟩
theorem Tr.toE {P : Program} {f : FuncId} {args : List Value} {M : Mem} {L : HL} {K : Value → Mem → HL → Prop} (h : Tr P f args M L K) : TrE P f args M L (fun e M' L' => ∃ v, e = .returned v ∧ K v M' L') :=
  ⟨h.1, fun w hw cs => by
    obtain ⟨v, w', fr, ⟨M', L', hp, hK⟩, hs, hfn, hl⟩ := h.2 w hw cs
    exact ⟨.returned v, w', fr, ⟨M', L', hp, v, rfl, hK⟩, by simp, hs, hfn, hl⟩⟩

section
variable {P : Program} {C : Cx} {n : Nat} {k : List Item} {ds : List Deferred} {σ : Env} {δ : Den} {M : Mem} {L : HL} {ops : Array Oper}
theorem run_retX (hro : C.b.roundOf = none) (h : RunX P C n .returning ds σ M L) : Run P C n (.code .ret :: k) ds σ M L := fun a w h1 h2 h3 h4 =>
  J.step (stepR_ret hro) (h a w _ h1 h2 h3 h4)
theorem run_endX (hro : C.b.roundOf = none) (h : RunX P C n .returning ds σ M L) : Run P C n [] ds σ M L := fun a w h1 h2 h3 h4 =>
  J.step (stepR_end hro) (h a w _ h1 h2 h3 h4)
theorem runX_ret {f : FuncId} {fn : Func} {K : Ending → Mem → HL → Prop} {M' : Mem} {L' : HL} (hC : FnCxE P f fn K C) {rs : List ResultVar} {vs : List Value} (hrs : fn.results.toList = rs) (hr : ResOk P M L σ rs vs)
    (hm : ∀ w, Hp M L w → Hp M' L' w) (hk : K (.returned (resVal vs)) M' L') : RunX P C n .returning [] σ M L := fun a w k _ h2 h3 h4 => by
  refine J.done ?_
  rw [hC.phi]
  refine ⟨.returned (resVal vs), M', L', hm w h4, hk, by simp, hC.b, rfl, h2, hC.kind, fn, ?_, ?_⟩
  · show P.funcs[C.b.fn]? = some fn; rw [hC.b]; exact hC.fnn
  · exact results_run h3 h4 (by rw [hrs]; exact hr)
theorem runX_pan {f : FuncId} {fn : Func} {K : Ending → Mem → HL → Prop} {M' : Mem} {L' : HL} {ch : List PanicEntry} (hC : FnCxE P f fn K C)
    (hm : ∀ w, Hp M L w → Hp M' L' w) (hk : K (.panicked ch) M' L') : RunX P C n (.panicking ch) [] σ M L := fun a w k _ h2 _ h4 => by
  refine J.done ?_
  rw [hC.phi]
  refine ⟨.panicked ch, M', L', hm w h4, hk, by simp, hC.b, rfl, h2, fn, ?_⟩
  show P.funcs[C.b.fn]? = some fn; rw [hC.b]; exact hC.fnn
/-- a call of what may panic, in a region in order -/
theorem runL_callE {d : Nat} {ty : TypeId} {pos : String} {aft : Array Edge} {l : List Oper} {f : FuncId} {args : Array Operand} {tys : Array TypeId} {vs : List Value} {K : Ending → Mem → HL → Prop}
    (ha : evs σ δ [] args.toList = some vs) (ht : TrE P f vs M L K) (hd : Nat.blt d n = true) (hn : lkd δ d = none) (hu : unNamed δ d = true)
    (h : ∀ v M' L', K (.returned v) M' L' → RunL P C n ops l k ds ((d, v) :: σ) δ M' L') (hp : ∀ ch M' L', K (.panicked ch) M' L' → RunX P C n (.panicking ch) ds σ M' L') :
    RunL P C n ops (⟨some d, .call ⟨.value (.func f), args, tys⟩, ty, pos, aft, none⟩ :: l) k ds σ δ M L := fun a w idx h1 h2 h3 h4 h5 => by
  cases idx with
  | nil => simp at h5
  | cons i r =>
    simp only [List.map_cons, List.cons.injEq] at h5
    have hg := stepGR_op (P := P) (b := C.b) (k := k) (cs := C.cs) (w := w) (rest := r) (a := a) h5.1 (wanted_none rfl _)
    have hr : ((⟨some d, .call ⟨.value (.func f), args, tys⟩, ty, pos, aft, none⟩ : Oper).semAt C.b.roundOf a.eval).run P w = .ok (.enter f ⟨vs⟩) w := by
      rw [semAt_of (by intro c e; cases e)]
      have e1 : args.map a.eval = ⟨vs⟩ := by apply Array.ext'; simpa using evs_sound h3 (holds_nil a) ha
      simp only [execOp, resolve, e1, Act.eval, Deferred.ofValue, Sem.run_bind, Sem.run_pure, Result.andThen_ok, invoke]
      simpa using ht.1 w
    obtain ⟨e, w'', fr, ⟨M', L', hp', hK⟩, hne, hs, _, hl⟩ := ht.2 w h4 (C.b.atR a (.inRegion ops (i :: r) :: k) :: C.cs)
    have henter : step P (lone (C.b.atR a (.inRegion ops (i :: r) :: k)) C.cs w) =
        .next (lone (Frame.enter P f ⟨vs⟩ .normal) (C.b.atR a (.inRegion ops (i :: r) :: k) :: C.cs) w) :=
      step_lone_go (by rw [hg]; simp [stepG.apply, hr, Frame.atR])
    have hd' : d < a.tmps.size := by rw [h1]; exact Nat.blt_eq.mp hd
    cases e with
    | outgrown => exact absurd rfl hne
    | returned v =>
      have hstep := step_leave_returned (c := C.b.atR a (.inRegion ops (i :: r) :: k)) (cs := C.cs) hl
      rw [finish_op h5.1] at hstep
      exact J.steps (.head henter (hs.trans (.one hstep))) (h v M' L' hK _ w'' r (by rw [put_size]; exact h1) (by rw [put_defers]; exact h2) (h3.put hd' hn hu v) hp' h5.2)
    | panicked ch =>
      have hstep := step_leave_panicked (c := C.b.atR a (.inRegion ops (i :: r) :: k)) (cs := C.cs) hl
      have hra : (C.b.atR a (.inRegion ops (i :: r) :: k)).raise ch = { C.b.atR a (.inRegion ops (i :: r) :: k) with mode := .panicking ch } := by simp [Frame.raise, Frame.atR]
      rw [hra] at hstep
      exact J.steps (.head henter (hs.trans (.one hstep))) (hp ch M' L' hK a w'' _ h1 h2 h3.nil hp')
end
end Go.Chi
namespace Go.Chi

section
variable {P : Program} {C : Cx} {n : Nat} {k : List Item} {ds : List Deferred} {σ : Env} {δ : Den} {M : Mem} {L : HL} {ops : Array Oper}
/-- a call is put off till the end -/
theorem runL_defer {x : Operand} {f : FuncId} {args : Array Operand} {tys : Array TypeId} {first cap : Array Value} {vs : List Value} {ty : TypeId} {pos : String} {aft : Array Edge} {l : List Oper} (hro : C.b.roundOf = none)
    (hx : ev σ δ [] x = some (.func (.func f) first cap)) (ha : evs σ δ [] args.toList = some vs)
    (h : RunL P C n ops l k (⟨.fn (.func f) cap, first ++ ⟨vs⟩⟩ :: ds) σ δ M L) :
    RunL P C n ops (⟨none, .defer ⟨.value x, args, tys⟩, ty, pos, aft, none⟩ :: l) k ds σ δ M L := fun a w idx h1 h2 h3 h4 h5 => by
  cases idx with
  | nil => simp at h5
  | cons i r =>
    simp only [List.map_cons, List.cons.injEq] at h5
    have hg := stepGR_op (P := P) (b := C.b) (k := k) (cs := C.cs) (w := w) (rest := r) (a := a) h5.1 (wanted_none rfl _)
    have hr : ((⟨none, .defer ⟨.value x, args, tys⟩, ty, pos, aft, none⟩ : Oper).semAt C.b.roundOf a.eval).run P w = .ok (.defer ⟨.fn (.func f) cap, first ++ ⟨vs⟩⟩) w := by
      rw [hro]
      have e1 : args.map a.eval = ⟨vs⟩ := by apply Array.ext'; simpa using evs_sound h3 (holds_nil a) ha
      simp [Oper.semAt, execOp, resolve, e1, ev_sound h3 (holds_nil a) hx, Deferred.ofValue]
    have hstep : step P (lone (C.b.atR a (.inRegion ops (i :: r) :: k)) C.cs w) =
        .next (lone (C.b.atR { a with defers := ⟨.fn (.func f) cap, first ++ ⟨vs⟩⟩ :: a.defers } (.inRegion ops r :: k)) C.cs w) := by
      refine step_lone_go ?_
      have hfin := finish_op (b := C.b) (a := { a with defers := ⟨.fn (.func f) cap, first ++ ⟨vs⟩⟩ :: a.defers }) (rest := r) (k := k) h5.1 undef
      simp only [Act.put] at hfin
      rw [hg, ← hfin]
      simp [stepG.apply, hr, Frame.atR]
    refine J.step hstep (h _ w r h1 (by rw [← h2]) ?_ h4 h5.2)
    exact ⟨fun t v e => h3.1 t v e, fun t p v e => h3.2 t p v e⟩
/-- a panic -/
theorem runL_panic {x : Operand} {t : TypeId} {v : Value} {ty : TypeId} {pos : String} {aft : Array Edge} {l : List Oper} (hro : C.b.roundOf = none)
    (hx : ev σ δ [] x = some (.iface t v)) (h : RunX P C n (.panicking [{ v := .iface t v, recovered := false }]) ds σ M L) :
    RunL P C n ops (⟨none, .panic x, ty, pos, aft, none⟩ :: l) k ds σ δ M L := fun a w idx h1 h2 h3 h4 h5 => by
  cases idx with
  | nil => simp at h5
  | cons i r =>
    simp only [List.map_cons, List.cons.injEq] at h5
    have hg := stepGR_op (P := P) (b := C.b) (k := k) (cs := C.cs) (w := w) (rest := r) (a := a) h5.1 (wanted_none rfl _)
    have hr : ((⟨none, .panic x, ty, pos, aft, none⟩ : Oper).semAt C.b.roundOf a.eval).run P w = .halt (.panic (.iface t v)) w := by
      rw [hro]
      simp [Oper.semAt, execOp, ev_sound h3 (holds_nil a) hx, Instr.panic, goPanic]
    have hra : (C.b.atR a (.inRegion ops (i :: r) :: k)).raise [{ v := .iface t v, recovered := false }] = { C.b.atR a (.inRegion ops (i :: r) :: k) with mode := .panicking [{ v := .iface t v, recovered := false }] } := by simp [Frame.raise, Frame.atR]
    have hstep : step P (lone (C.b.atR a (.inRegion ops (i :: r) :: k)) C.cs w) = .next (lone { C.b.atR a (.inRegion ops (i :: r) :: k) with mode := .panicking [{ v := .iface t v, recovered := false }] } C.cs w) := by
      refine step_lone_go ?_
      rw [hg, ← hra]
      simp [stepG.apply, hr]
    exact J.step hstep (h a w _ h1 h2 h3.nil h4)
end

/-! ### a call that was put off -/
/-- the frame below: its function's end is held up -/
def below (C : Cx) (a0 : Act) (k0 : List Item) (u : FrameMode) : Frame := { C.b.atR a0 k0 with mode := u }
/-- a call that was put off, over a frame in the mode u: when it ends, that frame goes on -/
def DCx (P : Program) (f : FuncId) (C : Cx) (a0 : Act) (k0 : List Item) (u : FrameMode) : Cx :=
  ⟨{ (default : Frame) with fn := f, kind := .deferred, roundOf := none }, below C a0 k0 u :: C.cs, fun fr w => ∃ fr' w', Steps P (lone fr (below C a0 k0 u :: C.cs) w) (lone fr' C.cs w') ∧ C.Φ fr' w'⟩
theorem runX_defer {P : Program} {C : Cx} {n : Nat} {ds : List Deferred} {σ : Env} {M : Mem} {L : HL} {u : FrameMode} {f : FuncId} {fn : Func} {c : Code} {cap dargs : Array Value} {args : List Value} (nD : Nat) (hu : u ≠ .run) (hf : P.funcs[f]? = some fn) (hb : fn.body = some c) (hn : fn.ntmps = nD)
    (hc : ∀ args w, (callFunc f args).run P w = .ok (.enter f args) w) (hargs : dargs ++ cap = ⟨args⟩) (ha : Nat.ble args.length nD = true)
    (h : ∀ a0 k0, a0.tmps.size = n → a0.defers = ds → Sees σ [] a0 → Run P (DCx P f C a0 k0 u) nD [.code c] [] (argEnv 0 args) M L) :
    RunX P C n u (⟨.fn (.func f) cap, dargs⟩ :: ds) σ M L := fun a w k h1 h2 h3 h4 => by
  have ha := Nat.le_of_ble_eq_true ha
  have hstep := step_defer (P := P) (fr := { C.b.atR a k with mode := u }) (cs := C.cs) (w := w) (d := ⟨.fn (.func f) cap, dargs⟩) (ds := ds) (f := f) (args := ⟨args⟩) hu h2 rfl (by
    show (callFunc f (dargs ++ cap)).run P w = _
    rw [hargs]; exact hc _ w)
  have henter : Frame.enter P f ⟨args⟩ .deferred = (DCx P f C { a with defers := ds } k u).b.atR { tmps := ⟨args⟩ ++ Array.replicate (nD - args.length) undef, defers := [] } [.code c] := by
    simp [Frame.enter, Frame.atR, hf, hb, hn, DCx]
  have hrun := h { a with defers := ds } k h1 rfl ⟨fun t v e => h3.1 t v e, fun t p v e => h3.2 t p v e⟩ { tmps := ⟨args⟩ ++ Array.replicate (nD - args.length) undef, defers := [] } w (by simp; omega) rfl
    ⟨fun t v e => by
      obtain ⟨_, h2⟩ := argEnv_lks e
      simp only [Nat.sub_zero] at h2
      have hlt : t < args.length := (List.getElem?_eq_some_iff.1 h2).1
      rw [Array.getElem?_append, if_pos (by simpa using hlt)]
      simpa using h2, fun t p v e => by simp [lkd] at e⟩ h4
  obtain ⟨fr1, w1, hs1, fr2, w2, hs2, hphi⟩ := hrun
  rw [← henter] at hs1
  exact ⟨fr2, w2, .head hstep (hs1.trans hs2), hphi⟩
section
variable {P : Program} {C : Cx} {n : Nat} {ds : List Deferred} {σ : Env} {M : Mem} {L : HL} {f : FuncId} {fn : Func} {a0 : Act} {k0 : List Item} {u : FrameMode}
theorem runX_dret {nD : Nat} {σD : Env} (hf : P.funcs[f]? = some fn) (hres : fn.results = #[]) (h1 : a0.tmps.size = n) (h2 : a0.defers = ds) (h3 : Sees σ [] a0) (h : RunX P C n (settle u) ds σ M L) : RunX P (DCx P f C a0 k0 u) nD .returning [] σD M L := fun a w k _ h5 _ h4 => by
  have hgo : Frame.going P { (DCx P f C a0 k0 u).b.atR a k with mode := .returning } w (.returned (.tuple #[])) := ⟨rfl, h5, fn, hf, by simp [results, hres]⟩
  have hstep := step_going_returned (c := below C a0 k0 u) (cs := C.cs) (fr := { (DCx P f C a0 k0 u).b.atR a k with mode := .returning }) rfl hgo
  obtain ⟨fr', w', hs, hphi⟩ := h a0 w k0 h1 h2 h3 h4
  exact J.done ⟨fr', w', .head hstep hs, hphi⟩
theorem runX_dpan {nD : Nat} {σD : Env} {ch : List PanicEntry} (hf : P.funcs[f]? = some fn) (h1 : a0.tmps.size = n) (h2 : a0.defers = ds) (h3 : Sees σ [] a0) (h : RunX P C n (raised u ch) ds σ M L) : RunX P (DCx P f C a0 k0 u) nD (.panicking ch) [] σD M L := fun a w k _ h5 _ h4 => by
  have hgo : Frame.going P { (DCx P f C a0 k0 u).b.atR a k with mode := .panicking ch } w (.panicked ch) := ⟨rfl, h5, fn, hf⟩
  have hstep := step_going_panicked (c := below C a0 k0 u) (cs := C.cs) (fr := { (DCx P f C a0 k0 u).b.atR a k with mode := .panicking ch }) hgo
  obtain ⟨fr', w', hs, hphi⟩ := h a0 w k0 h1 h2 h3 h4
  exact J.done ⟨fr', w', .head hstep hs, hphi⟩
/-- recover, where nothing was thrown -/
theorem runL_recover0 {d nD : Nat} {ty : TypeId} {pos : String} {aft : Array Edge} {l : List Oper} {ops : Array Oper} {k : List Item} {dsD : List Deferred} {σD : Env} {δ : Den} {tys : Array TypeId} (hd : Nat.blt d nD = true) (hn : lkd δ d = none) (hu' : unNamed δ d = true)
    (h : RunL P (DCx P f C a0 k0 .returning) nD ops l k dsD ((d, .nilIface) :: σD) δ M L) : RunL P (DCx P f C a0 k0 .returning) nD ops (⟨some d, .call ⟨.builtin .recover, #[], tys⟩, ty, pos, aft, none⟩ :: l) k dsD σD δ M L := fun a w idx h1 h2 h3 h4 h5 => by
  cases idx with
  | nil => simp at h5
  | cons i r =>
    simp only [List.map_cons, List.cons.injEq] at h5
    have hg := stepGR_op (P := P) (b := (DCx P f C a0 k0 .returning).b) (k := k) (cs := (DCx P f C a0 k0 .returning).cs) (w := w) (rest := r) (a := a) h5.1 (wanted_none rfl _)
    have hr : ((⟨some d, .call ⟨.builtin .recover, #[], tys⟩, ty, pos, aft, none⟩ : Oper).semAt (DCx P f C a0 k0 .returning).b.roundOf a.eval).run P w = .ok .recover w := by
      simp [DCx, Oper.semAt, execOp, resolve, invoke, builtin]
    have htr : tryRecover ((DCx P f C a0 k0 .returning).b.atR a (.inRegion ops (i :: r) :: k)) (DCx P f C a0 k0 .returning).cs = none := by
      rw [tryRecover_deferred rfl]
      simp [DCx, recoverD, below]
    have hstep : step P (lone ((DCx P f C a0 k0 .returning).b.atR a (.inRegion ops (i :: r) :: k)) (DCx P f C a0 k0 .returning).cs w) =
        .next (lone ((DCx P f C a0 k0 .returning).b.atR (a.put (some d) .nilIface) (.inRegion ops r :: k)) (DCx P f C a0 k0 .returning).cs w) := by
      refine step_lone_go ?_
      have hfin := finish_op (b := (DCx P f C a0 k0 .returning).b) (a := a) (rest := r) (k := k) h5.1 .nilIface
      rw [hg, ← hfin]
      have hro : ((DCx P f C a0 k0 .returning).b.atR a (.inRegion ops (i :: r) :: k)).roundOf = none := rfl
      simp [stepG.apply, hr, htr, hro]
    have hd' : d < a.tmps.size := by rw [h1]; exact Nat.blt_eq.mp hd
    exact J.step hstep (h _ w r (by rw [put_size]; exact h1) (by rw [put_defers]; exact h2) (h3.put hd' hn hu' _) h4 h5.2)
/-- recover, of a panic -/
theorem runL_recover {d nD : Nat} {v : Value} {older : List PanicEntry} {ty : TypeId} {pos : String} {aft : Array Edge} {l : List Oper} {ops : Array Oper} {k : List Item} {dsD : List Deferred} {σD : Env} {δ : Den} {tys : Array TypeId} (hd : Nat.blt d nD = true) (hn : lkd δ d = none) (hu' : unNamed δ d = true)
    (h : RunL P (DCx P f C a0 k0 (.panicking ({ v, recovered := true } :: older))) nD ops l k dsD ((d, v) :: σD) δ M L) : RunL P (DCx P f C a0 k0 (.panicking ({ v, recovered := false } :: older))) nD ops (⟨some d, .call ⟨.builtin .recover, #[], tys⟩, ty, pos, aft, none⟩ :: l) k dsD σD δ M L := fun a w idx h1 h2 h3 h4 h5 => by
  cases idx with
  | nil => simp at h5
  | cons i r =>
    simp only [List.map_cons, List.cons.injEq] at h5
    have hg := stepGR_op (P := P) (b := (DCx P f C a0 k0 (.panicking ({ v, recovered := false } :: older))).b) (k := k) (cs := (DCx P f C a0 k0 (.panicking ({ v, recovered := false } :: older))).cs) (w := w) (rest := r) (a := a) h5.1 (wanted_none rfl _)
    have hr : ((⟨some d, .call ⟨.builtin .recover, #[], tys⟩, ty, pos, aft, none⟩ : Oper).semAt (DCx P f C a0 k0 (.panicking ({ v, recovered := false } :: older))).b.roundOf a.eval).run P w = .ok .recover w := by
      simp [DCx, Oper.semAt, execOp, resolve, invoke, builtin]
    have htr : tryRecover ((DCx P f C a0 k0 (.panicking ({ v, recovered := false } :: older))).b.atR a (.inRegion ops (i :: r) :: k)) (DCx P f C a0 k0 (.panicking ({ v, recovered := false } :: older))).cs = some (v, (DCx P f C a0 k0 (.panicking ({ v, recovered := true } :: older))).cs) := by
      rw [tryRecover_deferred rfl]
      simp [DCx, recoverD, below]
    have hstep : step P (lone ((DCx P f C a0 k0 (.panicking ({ v, recovered := false } :: older))).b.atR a (.inRegion ops (i :: r) :: k)) (DCx P f C a0 k0 (.panicking ({ v, recovered := false } :: older))).cs w) =
        .next (lone ((DCx P f C a0 k0 (.panicking ({ v, recovered := false } :: older))).b.atR (a.put (some d) v) (.inRegion ops r :: k)) (DCx P f C a0 k0 (.panicking ({ v, recovered := true } :: older))).cs w) := by
      refine step_lone_go ?_
      have hfin := finish_op (b := (DCx P f C a0 k0 (.panicking ({ v, recovered := false } :: older))).b) (a := a) (rest := r) (k := k) h5.1 v
      have hro : ((DCx P f C a0 k0 (.panicking ({ v, recovered := false } :: older))).b.atR a (.inRegion ops (i :: r) :: k)).roundOf = none := rfl
      rw [hg, ← hfin]
      simp [stepG.apply, hr, htr, hro]
    have hd' : d < a.tmps.size := by rw [h1]; exact Nat.blt_eq.mp hd
    obtain ⟨fr1, w1, hs1, fr2, w2, hs2, hphi⟩ := h _ w r (by rw [put_size]; exact h1) (by rw [put_defers]; exact h2) (h3.put hd' hn hu' _) h4 h5.2
    exact J.done ⟨fr2, w2, .head hstep (hs1.trans hs2), hphi⟩
end
end Go.Chi
namespace Go.Chi
section
variable {P : Program} {T : TT} {ro : Option Nat} {σ : Env} {δ : Den} {cur : Path} {M : Mem} {L : HL} {d : Option Nat} {ty : TypeId} {pos : String} {aft : Array Edge} {g : Option (Nat × Bool)} {v : Value}
theorem qt_makeIface (hT : TOk P T) {t : TypeId} {x : Operand} {fs : Array Field} (hu : und T t = some (.struct fs)) (hx : ev σ δ cur x = some v) :
    Qt P ro ⟨d, .makeInterface t x, ty, pos, aft, g⟩ σ δ cur M L (.iface t v) :=
  qt_of_run (semAt_of (by intro c e; cases e)) fun a w hs hcur hp => by
    simp [execOp, Instr.makeInterface, ev_sound hs hcur hx, run_und hT hu]
theorem qt_assertIs (hT : TOk P T) {s t : TypeId} {x : Operand} {fs : Array Field} (hu : und T t = some (.struct fs)) (hx : ev σ δ cur x = some (.iface t v)) :
    Qt P ro ⟨d, .typeAssert x s t true, ty, pos, aft, g⟩ σ δ cur M L (.tuple ⟨[v, .bool true]⟩) :=
  qt_of_run (semAt_of (by intro c e; cases e)) fun a w hs hcur hp => by
    simp [execOp, Instr.typeAssert, ev_sound hs hcur hx, run_und hT hu]
theorem run_underlying {s : TypeId} {u : TypeDesc} (hu : P.underlying s = some u) (w : World) : (underlying s).run P w = .ok u w := by
  simp [underlying, hu]
theorem eq_nil {s t : TypeId} {ms : Array (String × TypeId)} (hu : P.underlying s = some (.interface ms)) (w : World) : (Op.equal s (.iface t v) .nilIface).run P w = .ok false w := by
  obtain ⟨k, hk⟩ : ∃ k, Op.maxDepth = k + 1 := ⟨_, rfl⟩
  rw [Op.equal, hk]
  simp only [Op.equalIn, Sem.run_bind, run_underlying hu, Result.andThen_ok, Sem.run_pure]
theorem eq_nil0 {s : TypeId} {ms : Array (String × TypeId)} (hu : P.underlying s = some (.interface ms)) (w : World) : (Op.equal s .nilIface .nilIface).run P w = .ok true w := by
  obtain ⟨k, hk⟩ : ∃ k, Op.maxDepth = k + 1 := ⟨_, rfl⟩
  rw [Op.equal, hk]
  simp only [Op.equalIn, Sem.run_bind, run_underlying hu, Result.andThen_ok, Sem.run_pure]
theorem qt_neNil {s t u : TypeId} {x : Operand} {ms : Array (String × TypeId)} (hu : P.underlying s = some (.interface ms)) (hx : ev σ δ cur x = some (.iface t v)) :
    Qt P ro ⟨d, .binOp .neq s x (.const .nilIface) u, ty, pos, aft, g⟩ σ δ cur M L (.bool true) :=
  qt_of_run (semAt_of (by intro c e; cases e)) fun a w hs hcur hp => by
    have hy : a.eval (.const .nilIface) = .nilIface := rfl
    simp [execOp, eqGuard, binOp, ev_sound hs hcur hx, hy, eq_nil hu]
theorem qt_neNil0 {s u : TypeId} {x : Operand} {ms : Array (String × TypeId)} (hu : P.underlying s = some (.interface ms)) (hx : ev σ δ cur x = some .nilIface) :
    Qt P ro ⟨d, .binOp .neq s x (.const .nilIface) u, ty, pos, aft, g⟩ σ δ cur M L (.bool false) :=
  qt_of_run (semAt_of (by intro c e; cases e)) fun a w hs hcur hp => by
    have hy : a.eval (.const .nilIface) = .nilIface := rfl
    simp [execOp, eqGuard, binOp, ev_sound hs hcur hx, hy, eq_nil0 hu]
end
end Go.Chi
namespace Go.Chi
section
variable {P : Program} {T : TT} {ro : Option Nat} {σ : Env} {δ : Den} {cur : Path} {M : Mem} {L : HL} {d : Option Nat} {ty : TypeId} {pos : String} {aft : Array Edge} {g : Option (Nat × Bool)}
theorem qt_strIndex (hT : TOk P T) {t : TypeId} {x y : Operand} {s : ByteArray} {k : IntKind} {n : Nat} {b : UInt8} (hu : und T t = some .string) (hx : ev σ δ cur x = some (.string s)) (hy : ev σ δ cur y = some (.int k (n : Int))) (hb : Hy σ δ cur → s[n]? = some b) :
    Qt P ro ⟨d, .index t x y, ty, pos, aft, g⟩ σ δ cur M L (.int .u8 (b.toNat : Int)) :=
  qt_of_run (semAt_of (by intro c e; cases e)) fun a w hs hcur hp => by
    have h := hb (Hy_of hs hcur)
    simp [execOp, Instr.index, ev_sound hs hcur hx, ev_sound hs hcur hy, asIntOf, run_und hT hu, h]
theorem qt_strLo (hT : TOk P T) {t : TypeId} {x y : Operand} {s : ByteArray} {k : IntKind} {n : Nat} (hu : und T t = some .string) (hx : ev σ δ cur x = some (.string s)) (hy : ev σ δ cur y = some (.int k (n : Int))) (hb : Hy σ δ cur → n ≤ s.size) :
    Qt P ro ⟨d, .slice t x (some y) none none, ty, pos, aft, g⟩ σ δ cur M L (.string (s.extract n s.size)) :=
  qt_of_run (semAt_of (by intro c e; cases e)) fun a w hs hcur hp => by
    have h := hb (Hy_of hs hcur)
    simp [execOp, Instr.sliceAt, Instr.slice, Instr.sliceBounds, Instr.sliceBound, ev_sound hs hcur hx, ev_sound hs hcur hy, asIntOf, run_und hT hu, h]
theorem qt_strHi (hT : TOk P T) {t : TypeId} {x y : Operand} {s : ByteArray} {k : IntKind} {n : Nat} (hu : und T t = some .string) (hx : ev σ δ cur x = some (.string s)) (hy : ev σ δ cur y = some (.int k (n : Int))) (hb : Hy σ δ cur → n ≤ s.size) :
    Qt P ro ⟨d, .slice t x none (some y) none, ty, pos, aft, g⟩ σ δ cur M L (.string (s.extract 0 n)) :=
  qt_of_run (semAt_of (by intro c e; cases e)) fun a w hs hcur hp => by
    have h := hb (Hy_of hs hcur)
    simp [execOp, Instr.sliceAt, Instr.slice, Instr.sliceBounds, Instr.sliceBound, ev_sound hs hcur hx, ev_sound hs hcur hy, asIntOf, run_und hT hu, h]
theorem qt_strMid (hT : TOk P T) {t : TypeId} {x y z : Operand} {s : ByteArray} {k k' : IntKind} {m n : Nat} (hu : und T t = some .string) (hx : ev σ δ cur x = some (.string s)) (hy : ev σ δ cur y = some (.int k (m : Int))) (hz : ev σ δ cur z = some (.int k' (n : Int))) (hb : Hy σ δ cur → m ≤ n ∧ n ≤ s.size) :
    Qt P ro ⟨d, .slice t x (some y) (some z) none, ty, pos, aft, g⟩ σ δ cur M L (.string (s.extract m n)) :=
  qt_of_run (semAt_of (by intro c e; cases e)) fun a w hs hcur hp => by
    have h := hb (Hy_of hs hcur)
    simp [execOp, Instr.sliceAt, Instr.slice, Instr.sliceBounds, Instr.sliceBound, ev_sound hs hcur hx, ev_sound hs hcur hy, ev_sound hs hcur hz, asIntOf, run_und hT hu, h]
end
end Go.Chi
namespace Go.Proofs.YtkjljcgbnikmkaaGreatDoor
open Go.Chi
set_option maxRecDepth 10000

/-! ### what a reading throws -/
def wrongV (e : Int) : Value := .iface 177 (.agg ⟨[.int .i64 e]⟩)
def pan (e : Int) : List PanicEntry := [{ v := wrongV e, recovered := false }]
def mustK (e : Int) (M : Mem) (L : HL) (en : Ending) (M' : Mem) (L' : HL) : Prop := M = M' ∧ L = L' ∧ if e = 0 then en = .returned (.tuple ⟨[]⟩) else en = .panicked (pan e)
theorem must_ok (M : Mem) (L : HL) (e : Int) : TrE Tryz.prog 139 [.int .i64 e] M L (mustK e M L) := by
  refine TrE.intro 7 Tryz.func139 rfl rfl Tryz.call139 rfl ?_
  intro C hC hro
  repeat (first | with_reducible (first | refine zS ?_ | refine zR ?_ | refine zN ?_ | refine zK ?_ | refine zB ?_ | refine zI ?_) | refine zE rfl ?_ | refine wq ?_ | refine wg ?_ | refine ws ?_ | refine wb fun _ => ?_ | refine wa fun _ => ?_ | refine wl fun _ => ?_)
  refine run_cond rfl (fun h => ?_) (fun h => ?_)
  · have h0 : e ≠ 0 := by simpa using h
    repeat (first | with_reducible (first | refine zS ?_ | refine zR ?_ | refine zN ?_ | refine zK ?_ | refine zB ?_ | refine zI ?_) | refine zE rfl ?_ | refine wq ?_ | refine wg ?_ | refine ws ?_ | refine wb fun _ => ?_ | refine wa fun _ => ?_ | refine wl fun _ => ?_ | refine runL_q (qt_makeIface tok rfl rfl) rfl rfl rfl ?_)
    refine runL_panic hro rfl ?_
    exact runX_pan hC (fun _ h => h) ⟨rfl, rfl, by rw [if_neg h0]; rfl⟩
  · have h0 : e = 0 := by simpa using h
    repeat (first | with_reducible (first | refine zS ?_ | refine zR ?_ | refine zN ?_ | refine zK ?_ | refine zB ?_ | refine zI ?_) | refine zE rfl ?_ | refine wq ?_ | refine wg ?_ | refine ws ?_ | refine wb fun _ => ?_ | refine wa fun _ => ?_ | refine wl fun _ => ?_)
    refine run_endX hro ?_
    exact runX_ret hC (rs := []) rfl (vs := []) trivial (fun _ h => h) ⟨rfl, rfl, by rw [if_pos h0]; rfl⟩
theorem caught_ok (M : Mem) (L : HL) (e : Int) : TrQ Tryz.prog 136 [wrongV e] M L (.int .i64 e) := by
  refine Tr.intro 15 Tryz.func136 rfl rfl Tryz.call136 rfl ?_
  intro C hC hro
  repeat (first | with_reducible (first | refine zS ?_ | refine zR ?_ | refine zN ?_ | refine zK ?_ | refine zB ?_ | refine zI ?_) | refine zE rfl ?_ | refine wq ?_ | refine wg ?_ | refine ws ?_ | refine wb fun _ => ?_ | refine wa fun _ => ?_ | refine wl fun _ => ?_ | refine runL_q (qt_assertIs tok rfl rfl) rfl rfl rfl ?_)
  refine run_cond rfl (fun h => ?_) (fun h => ?_)
  · simp at h
  · repeat (first | with_reducible (first | refine zS ?_ | refine zR ?_ | refine zN ?_ | refine zK ?_ | refine zB ?_ | refine zI ?_) | refine zE rfl ?_ | refine wq ?_ | refine wg ?_ | refine ws ?_ | refine wb fun _ => ?_ | refine wa fun _ => ?_ | refine wl fun _ => ?_)
    exact run_ret hC (rs := [.tmp 2]) rfl (resT rfl resN) (fun _ h => h.drop) ⟨rfl, rfl, rfl⟩
/-- what is left behind a reading: its answer, or why there is none -/
theorem tell_ok (M : Mem) (L : HL) (a b c : Int) : TrQ Tryz.prog 138 [.int .i64 a, .int .i64 b, .int .i64 c] M L (.tuple ⟨[]⟩) := by
  refine Tr.intro 6 Tryz.func138 rfl rfl Tryz.call138 rfl ?_
  intro C hC hro
  repeat (first | with_reducible (first | refine zS ?_ | refine zR ?_ | refine zN ?_ | refine zK ?_ | refine zB ?_ | refine zI ?_) | refine zE rfl ?_ | refine wq ?_ | refine wg ?_ | refine ws ?_ | refine wb fun _ => ?_ | refine wa fun _ => ?_ | refine wl fun _ => ?_)
  exact run_end hC (rs := []) rfl (vs := []) trivial (fun _ h => h) ⟨rfl, rfl, rfl⟩
end Go.Proofs.YtkjljcgbnikmkaaGreatDoor
namespace Go.Proofs.YtkjljcgbnikmkaaGreatDoor
open Go.Chi
set_option maxRecDepth 10000

theorem _root_.Go.Chi.runX_sub {P : Program} {C : Cx} {n : Nat} {u : FrameMode} {ds : List Deferred} {σ σ' : Env} {M : Mem} {L : HL} (h : RunX P C n u ds σ' M L) (hs : subE σ σ') : RunX P C n u ds σ M L :=
  fun a w k h1 h2 h3 h4 => h a w k h1 h2 ⟨fun t v e => h3.1 t v (subE_sound hs t v e), h3.2⟩ h4
theorem uAny : Tryz.prog.underlying 20 = some (.interface #[]) := by kernel_rfl
def fv (f : Nat) : Value := .func (.func f) ⟨[]⟩ ⟨[]⟩
def walkK (r : Except Int Nat) (M : Mem) (L : HL) (en : Ending) (M' : Mem) (L' : HL) : Prop := M = M' ∧ L = L' ∧ match r with | .ok n => en = .returned (.int .i64 (n : Int)) | .error e => en = .panicked (pan e)
def readR (r : Except Int Nat) : Int × Int := match r with | .ok n => if 16384 < n then (0, 5) else ((n : Int), 0) | .error e => (0, e)
set_option maxRecDepth 10000 in
set_option maxHeartbeats 4000000 in
theorem read_ok (M : Mem) (L : HL) (s : ByteArray) (r : Except Int Nat) (hw : ∀ L, TrE Tryz.prog 137 [.string s, .int .i64 0, .int .i64 1, fv 138] M L (walkK r M L)) : TrQ Tryz.prog 129 [.string s] M L (.tuple ⟨[.int .i64 (readR r).1, .int .i64 (readR r).2]⟩) := by
  refine TrE.tr (K := fun en M' L' => en = .returned (.tuple ⟨[.int .i64 (readR r).1, .int .i64 (readR r).2]⟩) ∧ M' = M ∧ L' = L) ?_ (fun e M' L' ⟨h1, h2, h3⟩ => ⟨_, h1, rfl, h2, h3⟩)
  refine TrE.intro 11 Tryz.func129 rfl rfl Tryz.call129 rfl ?_
  intro C hC hro
  repeat (first | with_reducible (first | refine zS ?_ | refine zR ?_ | refine zN ?_ | refine zK ?_ | refine zB ?_ | refine zI ?_) | refine zE rfl ?_ | refine wq ?_ | refine wg ?_ | refine ws ?_ | refine wb fun _ => ?_ | refine wa fun _ => ?_ | refine wl fun _ => ?_)
  rename_i b2 b3
  have hthrow : ∀ (e x : Int) (y : Int), readR r = (0, e) → RunX Tryz.prog C 11 (.panicking (pan e)) [⟨.fn (.func 135) ⟨[.pointer (some ⟨b2, 0, none⟩), .pointer (some ⟨b3, 0, none⟩)]⟩, #[]⟩] [(2, .pointer (some ⟨b2, 0, none⟩)), (3, .pointer (some ⟨b3, 0, none⟩))] M ((b3, .cells ⟨[.int .i64 y]⟩ 38 (0, 0)) :: (b2, .cells ⟨[.int .i64 x]⟩ 3 (0, 0)) :: L) := by
    intro e x y hr
    refine runX_defer (args := [.pointer (some ⟨b2, 0, none⟩), .pointer (some ⟨b3, 0, none⟩)]) 8 (by simp) Tryz.func135 rfl rfl Tryz.call135 rfl rfl ?_
    intro a0 k0 q1 q2 q3
    refine run_seq ?_
    refine run_region ?_
    refine runL_recover rfl rfl rfl ?_
    repeat (first | with_reducible (first | refine zS ?_ | refine zR ?_ | refine zN ?_ | refine zK ?_ | refine zB ?_ | refine zI ?_) | refine zE rfl ?_ | refine wq ?_ | refine wg ?_ | refine ws ?_ | refine wb fun _ => ?_ | refine wa fun _ => ?_ | refine wl fun _ => ?_)
    refine runL_q (qt_neNil (v := .agg ⟨[.int .i64 e]⟩) uAny rfl) rfl rfl rfl ?_
    repeat (first | with_reducible (first | refine zS ?_ | refine zR ?_ | refine zN ?_ | refine zK ?_ | refine zB ?_ | refine zI ?_) | refine zE rfl ?_ | refine wq ?_ | refine wg ?_ | refine ws ?_ | refine wb fun _ => ?_ | refine wa fun _ => ?_ | refine wl fun _ => ?_)
    refine run_cond rfl (fun _ => ?_) (fun h => ?_)
    rotate_left
    · cases h
    repeat (first | with_reducible (first | refine zS ?_ | refine zR ?_ | refine zN ?_ | refine zK ?_ | refine zB ?_ | refine zI ?_) | refine zE rfl ?_ | refine wq ?_ | refine wg ?_ | refine ws ?_ | refine wb fun _ => ?_ | refine wa fun _ => ?_ | refine wl fun _ => ?_ | refine runL_q (qt_callF rfl (fun _ => caught_ok _ _ e)) rfl rfl rfl ?_)
    refine run_endX rfl ?_
    refine runX_dret Tryz.func135 rfl q1 q2 q3 ?_
    show RunX _ _ _ .returning _ _ _ _
    refine runX_ret hC (rs := [.cell 2 3, .cell 3 38]) rfl (rl tok rfl (rl tok rfl resN)) (fun _ h => h.drop.drop) ⟨?_, rfl, rfl⟩
    rw [hr]; rfl
  refine runL_defer hro rfl rfl ?_
  repeat (first | with_reducible (first | refine zS ?_ | refine zR ?_ | refine zN ?_ | refine zK ?_ | refine zB ?_ | refine zI ?_) | refine zE rfl ?_ | refine wq ?_ | refine wg ?_ | refine ws ?_ | refine wb fun _ => ?_ | refine wa fun _ => ?_ | refine wl fun _ => ?_)
  refine runL_callE rfl (hw _) rfl rfl rfl ?_ ?_
  · rintro v _ _ ⟨rfl, rfl, hv⟩
    cases r with
    | error e => simp at hv
    | ok m =>
      simp only [Ending.returned.injEq] at hv
      subst hv
      repeat (first | with_reducible (first | refine zS ?_ | refine zR ?_ | refine zN ?_ | refine zK ?_ | refine zB ?_ | refine zI ?_) | refine zE rfl ?_ | refine wq ?_ | refine wg ?_ | refine ws ?_ | refine wb fun _ => ?_ | refine wa fun _ => ?_ | refine wl fun _ => ?_)
      refine run_cond rfl (fun h => ?_) (fun h => ?_)
      · have hm : 16384 < m := by simp at h; omega
        repeat (first | with_reducible (first | refine zS ?_ | refine zR ?_ | refine zN ?_ | refine zK ?_ | refine zB ?_ | refine zI ?_) | refine zE rfl ?_ | refine wq ?_ | refine wg ?_ | refine ws ?_ | refine wb fun _ => ?_ | refine wa fun _ => ?_ | refine wl fun _ => ?_)
        refine runL_callE rfl (must_ok _ _ 5) rfl rfl rfl ?_ ?_
        · rintro v _ _ ⟨_, _, hv⟩
          simp at hv
        · rintro ch _ _ ⟨rfl, rfl, hv⟩
          simp only [show ¬ (5 : Int) = 0 by decide, if_false, Ending.panicked.injEq] at hv
          subst hv
          exact runX_sub (hthrow 5 (m : Int) 0 (by simp only [readR, if_pos hm])) ⟨rfl, rfl, trivial⟩
      · have hm : ¬ 16384 < m := by simp at h; omega
        repeat (first | with_reducible (first | refine zS ?_ | refine zR ?_ | refine zN ?_ | refine zK ?_ | refine zB ?_ | refine zI ?_) | refine zE rfl ?_ | refine wq ?_ | refine wg ?_ | refine ws ?_ | refine wb fun _ => ?_ | refine wa fun _ => ?_ | refine wl fun _ => ?_)
        refine run_retX hro ?_
        refine runX_sub (σ' := [(2, .pointer (some ⟨b2, 0, none⟩)), (3, .pointer (some ⟨b3, 0, none⟩))]) ?_ ⟨rfl, rfl, trivial⟩
        refine runX_defer (args := [.pointer (some ⟨b2, 0, none⟩), .pointer (some ⟨b3, 0, none⟩)]) 8 (by simp) Tryz.func135 rfl rfl Tryz.call135 rfl rfl ?_
        intro a0 k0 q1 q2 q3
        refine run_seq ?_
        refine run_region ?_
        refine runL_recover0 rfl rfl rfl ?_
        repeat (first | with_reducible (first | refine zS ?_ | refine zR ?_ | refine zN ?_ | refine zK ?_ | refine zB ?_ | refine zI ?_) | refine zE rfl ?_ | refine wq ?_ | refine wg ?_ | refine ws ?_ | refine wb fun _ => ?_ | refine wa fun _ => ?_ | refine wl fun _ => ?_ | refine runL_q (qt_neNil0 uAny rfl) rfl rfl rfl ?_)
        refine run_cond rfl (fun h => ?_) (fun _ => ?_)
        · cases h
        repeat (first | with_reducible (first | refine zS ?_ | refine zR ?_ | refine zN ?_ | refine zK ?_ | refine zB ?_ | refine zI ?_) | refine zE rfl ?_ | refine wq ?_ | refine wg ?_ | refine ws ?_ | refine wb fun _ => ?_ | refine wa fun _ => ?_ | refine wl fun _ => ?_)
        refine run_endX rfl ?_
        refine runX_dret Tryz.func135 rfl q1 q2 q3 ?_
        show RunX _ _ _ .returning _ _ _ _
        refine runX_ret hC (rs := [.cell 2 3, .cell 3 38]) rfl (rl tok rfl (rl tok rfl resN)) (fun _ h => h.drop.drop) ⟨?_, rfl, rfl⟩
        simp only [readR, if_neg hm]
        rfl
  · rintro ch _ _ ⟨rfl, rfl, hv⟩
    cases r with
    | ok m => simp at hv
    | error e =>
      simp only [Ending.panicked.injEq] at hv
      subst hv
      exact runX_sub (hthrow e 0 0 rfl) ⟨rfl, rfl, trivial⟩
end Go.Proofs.YtkjljcgbnikmkaaGreatDoor
namespace Go.Proofs.YtkjljcgbnikmkaaGreatDoor
open Go.Chi
set_option maxRecDepth 10000

/-! ### numbers -/
def byte (s : ByteArray) (i : Nat) : Int := (((s[i]?).getD 0).toNat : Int)
def numV (s : ByteArray) : Nat → Int
  | 0 => 0
  | i + 1 => ior .u64 (ishl .u64 (numV s i) 8) (IntKind.u64.wrap (byte s i))
theorem byte_at {s : ByteArray} {i : Nat} (h : i < s.size) : ∃ b : UInt8, s[i]? = some b ∧ byte s i = (b.toNat : Int) := by
  have hx : s[i]? = some s[i] := by simp [h]
  exact ⟨_, hx, by rw [byte, hx]; rfl⟩
theorem empty_beq (s : ByteArray) : (s.toList == (⟨#[]⟩ : ByteArray).toList) = decide (s.size = 0) := by
  rw [bytes_beq, Bool.eq_iff_iff, decide_eq_true_eq, decide_eq_true_eq]
  constructor
  · rintro rfl; rfl
  · intro h0
    cases s with | mk d => simp [ByteArray.size] at h0; subst h0; rfl
theorem u64_byte (b : UInt8) : IntKind.u64.wrap (b.toNat : Int) = (b.toNat : Int) := by
  have := b.toNat_lt
  simp only [IntKind.wrap, IntKind.signed, IntKind.bits]
  simp
  omega
def rest1 (s : ByteArray) : ByteArray := s.extract 1 s.size
/-- a number at the front: what it is, how many bytes it has, or why there is none -/
def numR (s : ByteArray) : Int × Int × Int :=
  if s.size = 0 then (0, 0, 6) else
  if byte s 0 ≤ 247 then (byte s 0, 1, 0) else
  if ((rest1 s).size : Int) < byte s 0 - 247 then (0, 0, 6) else
  if byte (rest1 s) 0 = 0 ∨ numV (rest1 s) (byte s 0 - 247).toNat ≤ 247 then (0, 0, 7) else (numV (rest1 s) (byte s 0 - 247).toNat, byte s 0 - 247 + 1, 0)
set_option maxHeartbeats 4000000 in
theorem readNum_ok (M : Mem) (L : HL) (s : ByteArray) : TrQ Tryz.prog 122 [.string s] M L (.tuple ⟨[.int .u64 (numR s).1, .int .i64 (numR s).2.1, .int .i64 (numR s).2.2]⟩) := by
  refine Tr.intro 46 Tryz.func122 rfl rfl Tryz.call122 rfl ?_
  intro C hC hro
  repeat (first | with_reducible (first | refine zS ?_ | refine zR ?_ | refine zN ?_ | refine zK ?_ | refine zB ?_ | refine zI ?_) | refine zE rfl ?_ | refine wq ?_ | refine wg ?_ | refine ws ?_ | refine wb fun _ => ?_ | refine wa fun _ => ?_ | refine wl fun _ => ?_)
  refine run_cond rfl (fun h => ?_) (fun h => ?_)
  · repeat (first | with_reducible (first | refine zS ?_ | refine zR ?_ | refine zN ?_ | refine zK ?_ | refine zB ?_ | refine zI ?_) | refine zE rfl ?_ | refine wq ?_ | refine wg ?_ | refine ws ?_ | refine wb fun _ => ?_ | refine wa fun _ => ?_ | refine wl fun _ => ?_)
    exact run_ret hC (rs := [.tmp 2, .tmp 3, .tmp 4]) rfl (resT rfl (resT rfl (resT rfl resN))) (fun _ h => h) ⟨by rw [empty_beq, decide_eq_true_eq] at h; rw [numR, if_pos h]; rfl, rfl, rfl⟩
  rw [empty_beq, decide_eq_false_iff_not] at h
  have hs : 0 < s.size := by omega
  obtain ⟨b0, hb0, hb0'⟩ := byte_at hs
  repeat (first | with_reducible (first | refine zS ?_ | refine zR ?_ | refine zN ?_ | refine zK ?_ | refine zB ?_ | refine zI ?_) | refine zE rfl ?_ | refine wq ?_ | refine wg ?_ | refine ws ?_ | refine wb fun _ => ?_ | refine wa fun _ => ?_ | refine wl fun _ => ?_ | refine runL_q (qt_strIndex (n := 0) tok rfl rfl rfl (fun _ => hb0)) rfl rfl rfl ?_)
  refine run_cond rfl (fun h1 => ?_) (fun h1 => ?_)
  · have h2 : byte s 0 ≤ 247 := by rw [hb0']; simpa using h1
    repeat (first | with_reducible (first | refine zS ?_ | refine zR ?_ | refine zN ?_ | refine zK ?_ | refine zB ?_ | refine zI ?_) | refine zE rfl ?_ | refine wq ?_ | refine wg ?_ | refine ws ?_ | refine wb fun _ => ?_ | refine wa fun _ => ?_ | refine wl fun _ => ?_ | refine runL_q (qt_strIndex (n := 0) tok rfl rfl rfl (fun _ => hb0)) rfl rfl rfl ?_)
    refine run_ret hC (rs := [.tmp 2, .tmp 3, .tmp 4]) rfl (resT rfl (resT rfl (resT rfl resN))) (fun _ h => h) ⟨?_, rfl, rfl⟩
    rw [numR, if_neg h, if_pos h2, hb0', u64_byte]
    rfl
  have h2 : ¬ byte s 0 ≤ 247 := by rw [hb0']; simpa using h1
  obtain ⟨k, hk⟩ : ∃ k : Nat, k = b0.toNat - 247 := ⟨_, rfl⟩
  have hb0n : 247 < b0.toNat := by rw [hb0'] at h2; omega
  have hlt := b0.toNat_lt
  have hkv : IntKind.i64.wrap (IntKind.i64.wrap (b0.toNat : Int) - 247) = (k : Int) := by
    rw [wrap64_nat (by omega), show (b0.toNat : Int) - 247 = (k : Int) by omega, wrap64_nat (by omega)]
  repeat (first | with_reducible (first | refine zS ?_ | refine zR ?_ | refine zN ?_ | refine zK ?_ | refine zB ?_ | refine zI ?_) | refine zE rfl ?_ | refine wq ?_ | refine wg ?_ | refine ws ?_ | refine wb fun _ => ?_ | refine wa fun _ => ?_ | refine wl fun _ => ?_ | refine runL_q (qt_strIndex (n := 0) tok rfl rfl rfl (fun _ => hb0)) rfl rfl rfl ?_ | refine runL_q (qt_strLo (n := 1) tok rfl rfl rfl (fun _ => hs)) rfl rfl rfl ?_)
  have hkb : byte s 0 - 247 = (k : Int) := by rw [hb0']; omega
  refine run_cond rfl (fun h3 => ?_) (fun h3 => ?_)
  · rw [hkv] at h3
    repeat (first | with_reducible (first | refine zS ?_ | refine zR ?_ | refine zN ?_ | refine zK ?_ | refine zB ?_ | refine zI ?_) | refine zE rfl ?_ | refine wq ?_ | refine wg ?_ | refine ws ?_ | refine wb fun _ => ?_ | refine wa fun _ => ?_ | refine wl fun _ => ?_)
    refine run_ret hC (rs := [.tmp 2, .tmp 3, .tmp 4]) rfl (resT rfl (resT rfl (resT rfl resN))) (fun _ h => h) ⟨?_, rfl, rfl⟩
    have h4 : ((rest1 s).size : Int) < (k : Int) := of_decide_eq_true h3
    rw [numR, if_neg h, if_neg h2, hkb, if_pos h4]
    rfl
  rw [hkv] at h3
  have h4 : ¬ ((rest1 s).size : Int) < (k : Int) := of_decide_eq_false h3
  have h4' : k ≤ (rest1 s).size := by omega
  refine run_as 3 (.int .i64 (k : Int)) rfl (by rw [hkv]) ?_
  refine run_as 0 (.string (rest1 s)) rfl rfl ?_
  repeat (first | with_reducible (first | refine zS ?_ | refine zR ?_ | refine zN ?_ | refine zK ?_ | refine zB ?_ | refine zI ?_) | refine zE rfl ?_ | refine wq ?_ | refine wg ?_ | refine ws ?_ | refine wb fun _ => ?_ | refine wa fun _ => ?_ | refine wl fun _ => ?_)
  refine run_loopN (fun i σ1 M1 L1 => i ≤ k ∧ σ1 = [(25, .int .i64 (i : Int)), (24, .int .i64 (k : Int)), (2, .int .u64 (numV (rest1 s) i)), (3, .int .i64 (k : Int)), (0, .string (rest1 s))] ∧ M = M1 ∧ L = L1) k [(25, .int .i64 ((0 : Nat) : Int)), (24, .int .i64 (k : Int)), (2, .int .u64 0), (3, .int .i64 (k : Int)), (0, .string (rest1 s))] ?_ ⟨Nat.zero_le _, rfl, rfl, rfl⟩ (fun j _ _ _ h => h.1) ?_
  · exact ⟨rfl, rfl, rfl, rfl, rfl, trivial⟩
  rintro i _ _ _ ⟨hi, rfl, rfl, rfl⟩ hnext
  repeat (first | with_reducible (first | refine zS ?_ | refine zR ?_ | refine zN ?_ | refine zK ?_ | refine zB ?_ | refine zI ?_) | refine zE rfl ?_ | refine wq ?_ | refine wg ?_ | refine ws ?_ | refine wb fun _ => ?_ | refine wa fun _ => ?_ | refine wl fun _ => ?_)
  refine run_cond rfl (fun h5 => ?_) (fun h5 => ?_)
  · have hik : i < k := by simpa using h5
    obtain ⟨b, hb, hb'⟩ := byte_at (s := rest1 s) (i := i) (by omega)
    repeat (first | with_reducible (first | refine zS ?_ | refine zR ?_ | refine zN ?_ | refine zK ?_ | refine zB ?_ | refine zI ?_) | refine zE rfl ?_ | refine wq ?_ | refine wg ?_ | refine ws ?_ | refine wb fun _ => ?_ | refine wa fun _ => ?_ | refine wl fun _ => ?_ | refine runL_q (qt_shl rfl rfl (fun _ => by decide)) rfl rfl rfl ?_ | refine runL_q (qt_strIndex tok rfl rfl rfl (fun _ => hb)) rfl rfl rfl ?_)
    exact run_sub' (hnext _ _ _ ⟨hik, rfl, rfl, rfl⟩) ⟨lk_succ rfl (by omega), rfl, by rw [numV, hb']; rfl, rfl, rfl, trivial⟩
  · have hik : i = k := by simp at h5; omega
    subst hik
    obtain ⟨b, hb, hb'⟩ := byte_at (s := rest1 s) (i := 0) (by omega)
    have hz : (byte s 0 - 247).toNat = i := by omega
    repeat (first | with_reducible (first | refine zS ?_ | refine zR ?_ | refine zN ?_ | refine zK ?_ | refine zB ?_ | refine zI ?_) | refine zE rfl ?_ | refine wq ?_ | refine wg ?_ | refine ws ?_ | refine wb fun _ => ?_ | refine wa fun _ => ?_ | refine wl fun _ => ?_ | refine runL_q (qt_strIndex (n := 0) tok rfl rfl rfl (fun _ => hb)) rfl rfl rfl ?_)
    refine run_cond rfl (fun h6 => ?_) (fun h6 => ?_)
    · repeat (first | with_reducible (first | refine zS ?_ | refine zR ?_ | refine zN ?_ | refine zK ?_ | refine zB ?_ | refine zI ?_) | refine zE rfl ?_ | refine wq ?_ | refine wg ?_ | refine ws ?_ | refine wb fun _ => ?_ | refine wa fun _ => ?_ | refine wl fun _ => ?_)
      refine run_ret hC (rs := [.tmp 2, .tmp 3, .tmp 4]) rfl (resT rfl (resT rfl (resT rfl resN))) (fun _ h => h) ⟨?_, rfl, rfl⟩
      have h7 : byte (rest1 s) 0 = 0 ∨ numV (rest1 s) i ≤ 247 := by rw [hb']; simpa using h6
      rw [numR, if_neg h, if_neg h2, hz, if_neg (by rw [hkb]; exact h4), if_pos h7]
      rfl
    · repeat (first | with_reducible (first | refine zS ?_ | refine zR ?_ | refine zN ?_ | refine zK ?_ | refine zB ?_ | refine zI ?_) | refine zE rfl ?_ | refine wq ?_ | refine wg ?_ | refine ws ?_ | refine wb fun _ => ?_ | refine wa fun _ => ?_ | refine wl fun _ => ?_)
      refine run_ret hC (rs := [.tmp 2, .tmp 3, .tmp 4]) rfl (resT rfl (resT rfl (resT rfl resN))) (fun _ h => h) ⟨?_, rfl, rfl⟩
      have h7 : ¬ (byte (rest1 s) 0 = 0 ∨ numV (rest1 s) i ≤ 247) := by rw [hb']; simpa using h6
      rw [numR, if_neg h, if_neg h2, hz, if_neg (by rw [hkb]; exact h4), if_neg h7, hkb, wrap64_succ (by omega)]
      rfl
end Go.Proofs.YtkjljcgbnikmkaaGreatDoor
namespace Go.Chi
section
variable {P : Program} {C : Cx} {n : Nat} {k : List Item} {ds : List Deferred} {T : TT} {ro : Option Nat} {σ : Env} {δ : Den} {cur : Path} {M : Mem} {L : HL} {d : Option Nat} {ty : TypeId} {pos : String} {aft : Array Edge} {g : Option (Nat × Bool)} {v : Value}
theorem run_scope {c : Code} (h : Run P C n (.code c :: .inScope c :: k) ds σ M L) : Run P C n (.code (.scope c) :: k) ds σ M L :=
  fun a w h1 h2 h3 h4 => J.step (step_lone_go (by simp [stepG, stepG.exec, Frame.atR])) (h a w h1 h2 h3 h4)
theorem run_inScope {c : Code} (h : Run P C n k ds σ M L) : Run P C n (.inScope c :: k) ds σ M L :=
  fun a w h1 h2 h3 h4 => J.step (step_lone_go (by simp [stepG, stepG.exec, Frame.atR])) (h a w h1 h2 h3 h4)

/-- a call of an entry of the model's -/
theorem qt_callX {f : FuncId} {fn : Func} {e : Array Value → Sem Value} {args : Array Operand} {tys : Array TypeId} {vs : List Value} (hf : P.funcs[f]? = some fn) (hname : (fn.name == "runtime.NumGoroutine") = false)
    (hb : fn.body.isNone = true) (hn : Extern.findNext fn = none) (he : Extern.find fn = some e) (ha : evs σ δ cur args.toList = some vs) (h : ∀ w, (e ⟨vs⟩).run P w = .ok v w) :
    Qt P ro ⟨d, .call ⟨.value (.func f), args, tys⟩, ty, pos, aft, g⟩ σ δ cur M L v := fun a w hs hcur hp => by
  refine opWp_value (w' := w) (v := v) ?_ ⟨M, L, hp, rfl, rfl, rfl⟩
  rw [semAt_of (by intro c e; cases e)]
  have e1 : args.map a.eval = ⟨vs⟩ := by apply Array.ext'; simpa using evs_sound hs hcur ha
  simp only [execOp, resolve, e1, Act.eval, Deferred.ofValue, Sem.run_bind, Sem.run_pure, Result.andThen_ok, invoke]
  have hx := run_callFunc_extern (P := P) hf hname hb hn he ⟨vs⟩ w
  rw [h w] at hx
  simpa using hx

/-- a range over a string -/
theorem st_rangeS (hT : TOk P T) {t : TypeId} {x : Operand} {s : ByteArray} (hu : und T t = some .string) (hx : ev σ δ cur x = some (.string s)) :
    St P ro ⟨d, .range t x, ty, pos, aft, g⟩ σ δ cur M L (fun v' M' L' => ∃ b, v' = .pointer (some ⟨b, 0, none⟩) ∧ M = M' ∧ L' = (b, .stringIter s 0) :: L) := fun a w hs hcur hp => by
  refine opWp_value (v := .pointer (some ⟨w.heap.size, 0, none⟩)) (w' := { w with heap := w.heap.push (.stringIter s 0) }) ?_ ⟨M, _, hp.push _, _, rfl, rfl, rfl⟩
  rw [semAt_of (by intro c e; cases e)]
  simp [execOp, Instr.range, ev_sound hs hcur hx, run_und hT hu]

theorem st_nextS {x : Operand} {s : ByteArray} {b p : Nat} {L' : HL} (hx : ev σ δ cur x = some (.pointer (some ⟨b, 0, none⟩))) (hu : Upd L b (.stringIter s p) (.stringIter s (p + (Utf8.decode s p).2)) L') (hp' : p < s.size) :
    St P ro ⟨d, .next x true, ty, pos, aft, g⟩ σ δ cur M L (fun v' M' L1 => v' = .tuple ⟨[.bool true, .int .i64 (p : Int), .int .i32 (Utf8.decode s p).1]⟩ ∧ M = M' ∧ L1 = L') := fun a w hs hcur hp => by
  have hb := hp.own _ hu.mem
  have hlt := (Array.getElem?_eq_some_iff.1 hb).1
  refine opWp_value (v := .tuple ⟨[.bool true, .int .i64 (p : Int), .int .i32 (Utf8.decode s p).1]⟩) (w' := { w with heap := w.heap.setIfInBounds b (.stringIter s (p + (Utf8.decode s p).2)) }) ?_ ⟨M, L', hp.upd hu rfl rfl rfl ?_ ?_, rfl, rfl, rfl⟩
  · rw [semAt_of (by intro c e; cases e)]
    simp only [execOp, ev_sound hs hcur hx, Instr.next, getObj, setObj, Sem.run_bind, Sem.run, hb, Result.andThen, hp', if_true]
    simp [goInt]
  · simp [hlt]
  · intro j hj
    show (w.heap.setIfInBounds b _)[j]? = _
    rw [Array.getElem?_setIfInBounds, if_neg (fun e => hj e.symm)]
theorem qt_nextEnd {x : Operand} {s : ByteArray} {b p : Nat} (hx : ev σ δ cur x = some (.pointer (some ⟨b, 0, none⟩))) (hm : (b, Obj.stringIter s p) ∈ L) (hp' : ¬ p < s.size) :
    Qt P ro ⟨d, .next x true, ty, pos, aft, g⟩ σ δ cur M L (.tuple ⟨[.bool false]⟩) :=
  qt_of_run (semAt_of (by intro c e; cases e)) fun a w hs hcur hp => by
    have hb := hp.own _ hm
    simp only [execOp, ev_sound hs hcur hx, Instr.next, getObj, setObj, Sem.run_bind, Sem.run, hb, Result.andThen, hp', if_false]
    rfl
theorem qt_runeStr (hT : TOk P T) {s t : TypeId} {x : Operand} {m : Int} {k : IntKind} (hs' : und T s = some (.int k)) (hu : und T t = some .string) (hx : ev σ δ cur x = some (.int k m)) :
    Qt P ro ⟨d, .convert s t x, ty, pos, aft, g⟩ σ δ cur M L (.string (Utf8.encode m)) :=
  qt_of_run (semAt_of (by intro c e; cases e)) fun a w hs hcur hp => by
    simp [execOp, convert, Conv.intToString, ev_sound hs hcur hx, run_und hT hs', run_und hT hu]
theorem qt_max2 {x y : Operand} {tys : Array TypeId} {k k' : IntKind} {m n : Int} (hx : ev σ δ cur x = some (.int k m)) (hy : ev σ δ cur y = some (.int k' n)) :
    Qt P ro ⟨d, .call ⟨.builtin .max, #[x, y], tys⟩, ty, pos, aft, g⟩ σ δ cur M L (.int k (if n > m then n else m)) :=
  qt_of_run (semAt_of (by intro c e; cases e)) fun a w hs hcur hp => by
    simp [execOp, resolve, invoke, builtin, Builtin.max_, Builtin.max2, ev_sound hs hcur hx, ev_sound hs hcur hy]
end
end Go.Chi
namespace Go.Proofs.YtkjljcgbnikmkaaGreatDoor
open Go.Chi
set_option maxRecDepth 10000

/-! ### which bytes a name has -/
def abc : ByteArray := ⟨#[97, 98, 99, 100, 101, 102, 103, 104, 105, 106, 107, 108, 109, 110, 111, 112, 113, 114, 115, 116, 117, 118, 119, 120, 121, 122, 48, 49, 50, 51, 52, 53, 54, 55, 56, 57, 47, 46, 45]⟩
theorem sliteIB_ok (M : Mem) (L : HL) (s : ByteArray) (c : Int) : TrQ Tryz.prog 152 [.string s, .int .u8 c] M L (.int .i64 (firstIdx s c.toNat.toUInt8)) := by
  refine Tr.intro 8 Tryz.func152 rfl rfl Tryz.call152 rfl ?_
  intro C hC hro
  repeat (first | with_reducible (first | refine zS ?_ | refine zR ?_ | refine zN ?_ | refine zK ?_ | refine zB ?_ | refine zI ?_) | refine zE rfl ?_ | refine wq ?_ | refine wg ?_ | refine ws ?_ | refine wb fun _ => ?_ | refine wa fun _ => ?_ | refine wl fun _ => ?_ | refine runL_q (qt_callX Tryz.func153 (by kernel_rfl) (by kernel_rfl) (by kernel_rfl) (e := Extern.BytealgIndexByte.indexByte) (by kernel_rfl) rfl (fun w => run_indexByte_string s c w)) rfl rfl rfl ?_)
  exact run_ret hC (rs := [.tmp 4]) rfl (resT rfl resN) (fun _ h => h) ⟨rfl, rfl, rfl⟩
theorem indexByte_ok (M : Mem) (L : HL) (s : ByteArray) (c : Int) : TrQ Tryz.prog 148 [.string s, .int .u8 c] M L (.int .i64 (firstIdx s c.toNat.toUInt8)) := by
  refine Tr.intro 8 Tryz.func148 rfl rfl Tryz.call148 rfl ?_
  intro C hC hro
  repeat (first | with_reducible (first | refine zS ?_ | refine zR ?_ | refine zN ?_ | refine zK ?_ | refine zB ?_ | refine zI ?_) | refine zE rfl ?_ | refine wq ?_ | refine wg ?_ | refine ws ?_ | refine wb fun _ => ?_ | refine wa fun _ => ?_ | refine wl fun _ => ?_ | refine runL_q (qt_callF rfl (fun _ => sliteIB_ok _ _ s c)) rfl rfl rfl ?_)
  exact run_ret hC (rs := [.tmp 4]) rfl (resT rfl resN) (fun _ h => h) ⟨rfl, rfl, rfl⟩
theorem validRune_ok (M : Mem) (L : HL) (r : Int) : TrQ Tryz.prog 149 [.int .i32 r] M L (.bool (validRune r)) := by
  refine Tr.intro 17 Tryz.func149 rfl rfl Tryz.call149 rfl ?_
  intro C hC hro
  repeat (first | with_reducible (first | refine zS ?_ | refine zR ?_ | refine zN ?_ | refine zK ?_ | refine zB ?_ | refine zI ?_) | refine zE rfl ?_ | refine wq ?_ | refine wg ?_ | refine ws ?_ | refine wb fun _ => ?_ | refine wa fun _ => ?_ | refine wl fun _ => ?_)
  refine run_cond rfl (fun h => ?_) (fun h => ?_)
  · repeat (first | with_reducible (first | refine zS ?_ | refine zR ?_ | refine zN ?_ | refine zK ?_ | refine zB ?_ | refine zI ?_) | refine zE rfl ?_ | refine wq ?_ | refine wg ?_ | refine ws ?_ | refine wb fun _ => ?_ | refine wa fun _ => ?_ | refine wl fun _ => ?_)
    refine run_ret hC (rs := [.tmp 2]) rfl (resT rfl resN) (fun _ h => h) ⟨?_, rfl, rfl⟩
    rw [show validRune r = true from decide_eq_true (.inl (by simpa using h))]
    rfl
  · repeat (first | with_reducible (first | refine zS ?_ | refine zR ?_ | refine zN ?_ | refine zK ?_ | refine zB ?_ | refine zI ?_) | refine zE rfl ?_ | refine wq ?_ | refine wg ?_ | refine ws ?_ | refine wb fun _ => ?_ | refine wa fun _ => ?_ | refine wl fun _ => ?_)
    refine run_cond rfl (fun h' => ?_) (fun h' => ?_)
    · repeat (first | with_reducible (first | refine zS ?_ | refine zR ?_ | refine zN ?_ | refine zK ?_ | refine zB ?_ | refine zI ?_) | refine zE rfl ?_ | refine wq ?_ | refine wg ?_ | refine ws ?_ | refine wb fun _ => ?_ | refine wa fun _ => ?_ | refine wl fun _ => ?_)
      refine run_ret hC (rs := [.tmp 2]) rfl (resT rfl resN) (fun _ h => h) ⟨?_, rfl, rfl⟩
      rw [show validRune r = true from decide_eq_true (.inr (by simpa using h'))]
      rfl
    · repeat (first | with_reducible (first | refine zS ?_ | refine zR ?_ | refine zN ?_ | refine zK ?_ | refine zB ?_ | refine zI ?_) | refine zE rfl ?_ | refine wq ?_ | refine wg ?_ | refine ws ?_ | refine wb fun _ => ?_ | refine wa fun _ => ?_ | refine wl fun _ => ?_)
      refine run_ret hC (rs := [.tmp 2]) rfl (resT rfl resN) (fun _ h => h) ⟨?_, rfl, rfl⟩
      rw [show validRune r = false from decide_eq_false (by
        rintro (h1 | h1)
        · simp [h1.1, h1.2] at h
        · simp [h1.1, h1.2] at h')]
      rfl
def runeIx (r : Int) : Int := if 0 ≤ r ∧ r < 128 then firstIdx abc (IntKind.u8.wrap r).toNat.toUInt8 else -1
theorem abc_lt : ∀ b ∈ abc.data.toList, b.toNat < 128 := by decide +kernel
theorem abc_at {i : Nat} (h : i < 39) : ∃ b : UInt8, abc[i]? = some b ∧ b.toNat < 128 := by
  have hx : abc[i]? = some (abc[i]'h) := getElem?_pos abc i h
  exact ⟨_, hx, abc_lt _ (Array.getElem_mem_toList (xs := abc.data) h)⟩
set_option maxHeartbeats 4000000 in
theorem indexRune_ok (M : Mem) (L : HL) (r : Int) : TrQ Tryz.prog 147 [.string abc, .int .i32 r] M L (.int .i64 (runeIx r)) := by
  refine Tr.intro 187 Tryz.func147 rfl rfl Tryz.call147 rfl ?_
  intro C hC hro
  repeat (first | with_reducible (first | refine zS ?_ | refine zR ?_ | refine zN ?_ | refine zK ?_ | refine zB ?_ | refine zI ?_) | refine zE rfl ?_ | refine wq ?_ | refine wg ?_ | refine ws ?_ | refine wb fun _ => ?_ | refine wa fun _ => ?_ | refine wl fun _ => ?_)
  refine run_cond rfl (fun h => ?_) (fun h => ?_)
  · have h0 : 0 ≤ r ∧ r < 128 := by simpa using h
    repeat (first | with_reducible (first | refine zS ?_ | refine zR ?_ | refine zN ?_ | refine zK ?_ | refine zB ?_ | refine zI ?_) | refine zE rfl ?_ | refine wq ?_ | refine wg ?_ | refine ws ?_ | refine wb fun _ => ?_ | refine wa fun _ => ?_ | refine wl fun _ => ?_ | refine runL_q (qt_callF rfl (fun _ => indexByte_ok _ _ abc _)) rfl rfl rfl ?_)
    refine run_ret hC (rs := [.tmp 4]) rfl (resT rfl resN) (fun _ h => h) ⟨?_, rfl, rfl⟩
    rw [runeIx, if_pos h0]; rfl
  have h0 : ¬ (0 ≤ r ∧ r < 128) := by simpa using h
  have hres : runeIx r = -1 := by rw [runeIx, if_neg h0]
  repeat (first | with_reducible (first | refine zS ?_ | refine zR ?_ | refine zN ?_ | refine zK ?_ | refine zB ?_ | refine zI ?_) | refine zE rfl ?_ | refine wq ?_ | refine wg ?_ | refine ws ?_ | refine wb fun _ => ?_ | refine wa fun _ => ?_ | refine wl fun _ => ?_)
  refine run_cond rfl (fun h1 => ?_) (fun h1 => ?_)
  · repeat (first | with_reducible (first | refine zS ?_ | refine zR ?_ | refine zN ?_ | refine zK ?_ | refine zB ?_ | refine zI ?_) | refine zE rfl ?_ | refine wq ?_ | refine wg ?_ | refine ws ?_ | refine wb fun _ => ?_ | refine wa fun _ => ?_ | refine wl fun _ => ?_ | (refine runL_op (st_rangeS tok rfl rfl) rfl rfl rfl ?_; rintro _ _ _ ⟨b, rfl, rfl, rfl⟩))
    refine run_loopN (fun i σ1 M1 L1 => i ≤ 39 ∧ σ1 = [(175, .pointer (some ⟨b, 0, none⟩))] ∧ M = M1 ∧ L1 = (b, .stringIter abc i) :: L) 39 [(175, .pointer (some ⟨b, 0, none⟩))] ?_ ⟨Nat.zero_le _, rfl, rfl, rfl⟩ (fun j _ _ _ h => h.1) ?_
    · exact ⟨rfl, trivial⟩
    rintro i _ _ _ ⟨hi, rfl, rfl, rfl⟩ hnext
    by_cases hlt : i < 39
    · have hd : Utf8.decode abc i = ((abc[i]'hlt).toNat, 1) := decode_ascii abc i hlt (abc_lt _ (Array.getElem_mem_toList (xs := abc.data) hlt))
      have hb' : (abc[i]'hlt).toNat < 128 := abc_lt _ (Array.getElem_mem_toList (xs := abc.data) hlt)
      repeat (first | with_reducible (first | refine zS ?_ | refine zR ?_ | refine zN ?_ | refine zK ?_ | refine zB ?_ | refine zI ?_) | refine zE rfl ?_ | refine wq ?_ | refine wg ?_ | refine ws ?_ | refine wb fun _ => ?_ | refine wa fun _ => ?_ | refine wl fun _ => ?_ | (refine runL_op (st_nextS rfl (by (repeat (first | with_reducible apply Upd.here | with_reducible apply Upd.there | with_reducible apply Upd.append_left))) hlt) rfl rfl rfl ?_; rintro _ _ _ ⟨rfl, rfl, rfl⟩))
      refine run_cond rfl (fun _ => ?_) (fun h => by cases h)
      repeat (first | with_reducible (first | refine zS ?_ | refine zR ?_ | refine zN ?_ | refine zK ?_ | refine zB ?_ | refine zI ?_) | refine zE rfl ?_ | refine wq ?_ | refine wg ?_ | refine ws ?_ | refine wb fun _ => ?_ | refine wa fun _ => ?_ | refine wl fun _ => ?_)
      refine run_cond rfl (fun h2 => ?_) (fun h2 => ?_)
      · exfalso
        rw [hd] at h2
        have h3 : (((abc[i]'hlt).toNat : Int)) = 65533 := by simpa using h2
        omega
      · repeat (first | with_reducible (first | refine zS ?_ | refine zR ?_ | refine zN ?_ | refine zK ?_ | refine zB ?_ | refine zI ?_) | refine zE rfl ?_ | refine wq ?_ | refine wg ?_ | refine ws ?_ | refine wb fun _ => ?_ | refine wa fun _ => ?_ | refine wl fun _ => ?_)
        exact run_sub' (hnext _ _ _ ⟨hlt, rfl, rfl, by rw [hd]⟩) ⟨rfl, trivial⟩
    · repeat (first | with_reducible (first | refine zS ?_ | refine zR ?_ | refine zN ?_ | refine zK ?_ | refine zB ?_ | refine zI ?_) | refine zE rfl ?_ | refine wq ?_ | refine wg ?_ | refine ws ?_ | refine wb fun _ => ?_ | refine wa fun _ => ?_ | refine wl fun _ => ?_ | refine runL_q (qt_nextEnd rfl (by (repeat (first | with_reducible apply List.mem_cons_self | with_reducible assumption | with_reducible apply List.mem_cons_of_mem | with_reducible apply List.mem_append_right))) hlt) rfl rfl rfl ?_)
      refine run_cond rfl (fun h => by cases h) (fun _ => ?_)
      repeat (first | with_reducible (first | refine zS ?_ | refine zR ?_ | refine zN ?_ | refine zK ?_ | refine zB ?_ | refine zI ?_) | refine zE rfl ?_ | refine wq ?_ | refine wg ?_ | refine ws ?_ | refine wb fun _ => ?_ | refine wa fun _ => ?_ | refine wl fun _ => ?_)
      exact run_ret hC (rs := [.tmp 4]) rfl (resT rfl resN) (fun _ h => h.drop) ⟨by rw [hres]; rfl, rfl, rfl⟩
  · repeat (first | with_reducible (first | refine zS ?_ | refine zR ?_ | refine zN ?_ | refine zK ?_ | refine zB ?_ | refine zI ?_) | refine zE rfl ?_ | refine wq ?_ | refine wg ?_ | refine ws ?_ | refine wb fun _ => ?_ | refine wa fun _ => ?_ | refine wl fun _ => ?_ | refine runL_q (qt_callF rfl (fun _ => validRune_ok _ _ r)) rfl rfl rfl ?_)
    refine run_cond rfl (fun h2 => ?_) (fun h2 => ?_)
    · repeat (first | with_reducible (first | refine zS ?_ | refine zR ?_ | refine zN ?_ | refine zK ?_ | refine zB ?_ | refine zI ?_) | refine zE rfl ?_ | refine wq ?_ | refine wg ?_ | refine ws ?_ | refine wb fun _ => ?_ | refine wa fun _ => ?_ | refine wl fun _ => ?_)
      exact run_ret hC (rs := [.tmp 4]) rfl (resT rfl resN) (fun _ h => h) ⟨by rw [hres]; rfl, rfl, rfl⟩
    have hv : validRune r = true := by simpa using h2
    have h128 : 128 ≤ r := by
      simp only [validRune, decide_eq_true_eq] at hv
      omega
    obtain ⟨hz2, hz4, hlast⟩ := encode_facts r (by rw [validRune_eq]; exact hv) h128
    obtain ⟨m, hm⟩ : ∃ m : Nat, (Utf8.encode r).size = m + 1 := ⟨(Utf8.encode r).size - 1, by omega⟩
    have hlast' := hlast (by omega)
    obtain ⟨c, hc, hc128⟩ : ∃ c : UInt8, (Utf8.encode r)[m]? = some c ∧ 128 ≤ c.toNat := by
      refine ⟨(Utf8.encode r)[m]'(by omega), by simp [hm], ?_⟩
      have : (Utf8.encode r).size - 1 = m := by omega
      simpa only [this] using hlast'
    obtain ⟨a0, ha0, ha1⟩ := abc_at (i := m) (by omega)
    repeat (first | with_reducible (first | refine zS ?_ | refine zR ?_ | refine zN ?_ | refine zK ?_ | refine zB ?_ | refine zI ?_) | refine zE rfl ?_ | refine wq ?_ | refine wg ?_ | refine ws ?_ | refine wb fun _ => ?_ | refine wa fun _ => ?_ | refine wl fun _ => ?_ | refine run_scope ?_ | refine runL_q (qt_runeStr tok rfl rfl rfl) rfl rfl rfl ?_)
    refine run_as 8 (.int .i64 (m : Int)) rfl (by rw [show (((Utf8.encode r).size : Int) - 1) = (m : Int) by omega, wrap64_nat (by omega)]) ?_
    refine run_as 9 (.int .i64 (m : Int)) rfl (by rw [show (((Utf8.encode r).size : Int) - 1) = (m : Int) by omega, wrap64_nat (by omega)]) ?_
    repeat (first | with_reducible (first | refine zS ?_ | refine zR ?_ | refine zN ?_ | refine zK ?_ | refine zB ?_ | refine zI ?_) | refine zE rfl ?_ | refine wq ?_ | refine wg ?_ | refine ws ?_ | refine wb fun _ => ?_ | refine wa fun _ => ?_ | refine wl fun _ => ?_)
    refine run_loop ?_
    repeat (first | with_reducible (first | refine zS ?_ | refine zR ?_ | refine zN ?_ | refine zK ?_ | refine zB ?_ | refine zI ?_) | refine zE rfl ?_ | refine wq ?_ | refine wg ?_ | refine ws ?_ | refine wb fun _ => ?_ | refine wa fun _ => ?_ | refine wl fun _ => ?_)
    refine run_cond rfl (fun _ => ?_) (fun h3 => ?_)
    rotate_left
    · exfalso
      have h3' : ¬ ((m : Int) < (abc.size : Int)) := by simpa using h3
      have : abc.size = 39 := rfl
      omega
    repeat (first | with_reducible (first | refine zS ?_ | refine zR ?_ | refine zN ?_ | refine zK ?_ | refine zB ?_ | refine zI ?_) | refine zE rfl ?_ | refine wq ?_ | refine wg ?_ | refine ws ?_ | refine wb fun _ => ?_ | refine wa fun _ => ?_ | refine wl fun _ => ?_ | refine prn_start mixed ?_ | refine prn_end (by decide +kernel) ?_ | refine dq ?_ | refine dg ?_ | (refine prn_e0 rfl (sst tok rfl rfl rfl rfl rfl) (by decide +kernel) ?_; rintro _ _ _ ⟨rfl, rfl, rfl⟩) | ((first | refine pe rfl (st_box rfl) ?_ | refine pe rfl (st_alloc tok rfl) ?_ | refine pe rfl (st_buildSlice tok rfl rfl rfl rfl rfl rfl rfl) ?_); rintro _ _ _ ⟨_, rfl, rfl, rfl⟩) | (refine prn_o0 rfl (sst tok rfl rfl rfl rfl rfl) (by decide +kernel) ?_; rintro _ _ _ ⟨rfl, rfl, rfl⟩; refine ⟨by (repeat (first | exact trivial | refine And.intro (pend_q rfl rfl rfl (qt_pev tok rfl)) ?_ | refine And.intro (pend_q rfl rfl rfl (ql tok rfl)) ?_)), ?_⟩) | ((first | refine po rfl (st_box rfl) ?_ | refine po rfl (st_alloc tok rfl) ?_ | refine po rfl (st_buildSlice tok rfl rfl rfl rfl rfl rfl rfl) ?_); rintro _ _ _ ⟨_, rfl, rfl, rfl⟩; refine ⟨by (repeat (first | exact trivial | refine And.intro (pend_q rfl rfl rfl (qt_pev tok rfl)) ?_ | refine And.intro (pend_q rfl rfl rfl (ql tok rfl)) ?_)), ?_⟩) | (refine pe rfl (qt_pev tok rfl) ?_; rintro _ _ _ ⟨rfl, rfl, rfl⟩) | refine run_scope ?_ | refine prn_q rfl (qt_strIndex tok rfl rfl rfl (fun _ => ha0)) (by decide +kernel) rfl rfl rfl ?_ | refine prn_q rfl (qt_strIndex tok rfl rfl rfl (fun _ => hc)) (by decide +kernel) rfl rfl rfl ?_)
    refine run_cond rfl (fun _ => ?_) (fun h4 => ?_)
    rotate_left
    · exfalso
      have h4' : (a0.toNat : Int) = (c.toNat : Int) := by simpa using h4
      omega
    have hm1 : IntKind.i64.wrap ((m : Int) + 1) = ((m + 1 : Nat) : Int) := wrap64_succ (by omega)
    repeat (first | with_reducible (first | refine zS ?_ | refine zR ?_ | refine zN ?_ | refine zK ?_ | refine zB ?_ | refine zI ?_) | refine zE rfl ?_ | refine wq ?_ | refine wg ?_ | refine ws ?_ | refine wb fun _ => ?_ | refine wa fun _ => ?_ | refine wl fun _ => ?_ | refine prn_start mixed ?_ | refine prn_end (by decide +kernel) ?_ | refine dq ?_ | refine dg ?_ | (refine prn_e0 rfl (sst tok rfl rfl rfl rfl rfl) (by decide +kernel) ?_; rintro _ _ _ ⟨rfl, rfl, rfl⟩) | ((first | refine pe rfl (st_box rfl) ?_ | refine pe rfl (st_alloc tok rfl) ?_ | refine pe rfl (st_buildSlice tok rfl rfl rfl rfl rfl rfl rfl) ?_); rintro _ _ _ ⟨_, rfl, rfl, rfl⟩) | (refine prn_o0 rfl (sst tok rfl rfl rfl rfl rfl) (by decide +kernel) ?_; rintro _ _ _ ⟨rfl, rfl, rfl⟩; refine ⟨by (repeat (first | exact trivial | refine And.intro (pend_q rfl rfl rfl (qt_pev tok rfl)) ?_ | refine And.intro (pend_q rfl rfl rfl (ql tok rfl)) ?_)), ?_⟩) | ((first | refine po rfl (st_box rfl) ?_ | refine po rfl (st_alloc tok rfl) ?_ | refine po rfl (st_buildSlice tok rfl rfl rfl rfl rfl rfl rfl) ?_); rintro _ _ _ ⟨_, rfl, rfl, rfl⟩; refine ⟨by (repeat (first | exact trivial | refine And.intro (pend_q rfl rfl rfl (qt_pev tok rfl)) ?_ | refine And.intro (pend_q rfl rfl rfl (ql tok rfl)) ?_)), ?_⟩) | (refine pe rfl (qt_pev tok rfl) ?_; rintro _ _ _ ⟨rfl, rfl, rfl⟩))
    refine pr_as 36 (.int .i64 ((m + 1 : Nat) : Int)) rfl (by rw [hm1]) ?_
    repeat (first | with_reducible (first | refine zS ?_ | refine zR ?_ | refine zN ?_ | refine zK ?_ | refine zB ?_ | refine zI ?_) | refine zE rfl ?_ | refine wq ?_ | refine wg ?_ | refine ws ?_ | refine wb fun _ => ?_ | refine wa fun _ => ?_ | refine wl fun _ => ?_ | refine prn_start mixed ?_ | refine prn_end (by decide +kernel) ?_ | refine dq ?_ | refine dg ?_ | (refine prn_e0 rfl (sst tok rfl rfl rfl rfl rfl) (by decide +kernel) ?_; rintro _ _ _ ⟨rfl, rfl, rfl⟩) | ((first | refine pe rfl (st_box rfl) ?_ | refine pe rfl (st_alloc tok rfl) ?_ | refine pe rfl (st_buildSlice tok rfl rfl rfl rfl rfl rfl rfl) ?_); rintro _ _ _ ⟨_, rfl, rfl, rfl⟩) | (refine prn_o0 rfl (sst tok rfl rfl rfl rfl rfl) (by decide +kernel) ?_; rintro _ _ _ ⟨rfl, rfl, rfl⟩; refine ⟨by (repeat (first | exact trivial | refine And.intro (pend_q rfl rfl rfl (qt_pev tok rfl)) ?_ | refine And.intro (pend_q rfl rfl rfl (ql tok rfl)) ?_)), ?_⟩) | ((first | refine po rfl (st_box rfl) ?_ | refine po rfl (st_alloc tok rfl) ?_ | refine po rfl (st_buildSlice tok rfl rfl rfl rfl rfl rfl rfl) ?_); rintro _ _ _ ⟨_, rfl, rfl, rfl⟩; refine ⟨by (repeat (first | exact trivial | refine And.intro (pend_q rfl rfl rfl (qt_pev tok rfl)) ?_ | refine And.intro (pend_q rfl rfl rfl (ql tok rfl)) ?_)), ?_⟩) | (refine pe rfl (qt_pev tok rfl) ?_; rintro _ _ _ ⟨rfl, rfl, rfl⟩) | refine prn_q rfl (qt_strLo tok rfl rfl rfl (fun _ => show m + 1 ≤ 39 by omega)) (by decide +kernel) rfl rfl rfl ?_ | refine prn_q rfl (qt_strIndex tok rfl rfl rfl (fun _ => hc)) (by decide +kernel) rfl rfl rfl ?_ | refine prn_q rfl (qt_callF rfl (fun _ => indexByte_ok _ _ _ _)) (by decide +kernel) rfl rfl rfl ?_)
    refine run_cond rfl (fun _ => ?_) (fun h5 => ?_)
    · repeat (first | with_reducible (first | refine zS ?_ | refine zR ?_ | refine zN ?_ | refine zK ?_ | refine zB ?_ | refine zI ?_) | refine zE rfl ?_ | refine wq ?_ | refine wg ?_ | refine ws ?_ | refine wb fun _ => ?_ | refine wa fun _ => ?_ | refine wl fun _ => ?_)
      exact run_ret hC (rs := [.tmp 4]) rfl (resT rfl resN) (fun _ h => h) ⟨by rw [hres]; rfl, rfl, rfl⟩
    · exfalso
      rw [firstIdx_ascii abc _ _ _ abc_lt (by simpa using hc128)] at h5
      cases h5
end Go.Proofs.YtkjljcgbnikmkaaGreatDoor
namespace Go.Proofs.YtkjljcgbnikmkaaGreatDoor
open Go.Chi
set_option maxRecDepth 10000

def inAbc (r : Int) : Bool := decide (0 ≤ runeIx r)
theorem containsRune_ok (M : Mem) (L : HL) (r : Int) : TrQ Tryz.prog 146 [.string abc, .int .i32 r] M L (.bool (inAbc r)) := by
  refine Tr.intro 9 Tryz.func146 rfl rfl Tryz.call146 rfl ?_
  intro C hC hro
  repeat (first | with_reducible (first | refine zS ?_ | refine zR ?_ | refine zN ?_ | refine zK ?_ | refine zB ?_ | refine zI ?_) | refine zE rfl ?_ | refine wq ?_ | refine wg ?_ | refine ws ?_ | refine wb fun _ => ?_ | refine wa fun _ => ?_ | refine wl fun _ => ?_ | refine runL_q (qt_callF rfl (fun _ => indexRune_ok _ _ r)) rfl rfl rfl ?_)
  exact run_ret hC (rs := [.tmp 4]) rfl (resT rfl resN) (fun _ h => h) ⟨rfl, rfl, rfl⟩
theorem decode_wide (s : ByteArray) {p : Nat} (h : p < s.size) : 1 ≤ (Utf8.decode s p).2 := by
  by_cases ha : (s[p]'h).toNat < 128
  · rw [decode_ascii s p h ha]; exact Nat.le_refl _
  · exact (decode_high s p h (by omega)).2
/-- whether all runes from here on may stand in a name -/
def namedAt (s : ByteArray) : Nat → Nat → Bool
  | 0, _ => true
  | f + 1, p => if p < s.size then inAbc (Utf8.decode s p).1 && namedAt s f (p + (Utf8.decode s p).2) else true
def namedR (s : ByteArray) : Bool := namedAt s (s.size + 1) 0 && decide (s.size ≠ 0)
theorem namedAt_end (s : ByteArray) {p : Nat} (h : ¬ p < s.size) : ∀ f, namedAt s f p = true
  | 0 => rfl
  | f + 1 => by rw [namedAt, if_neg h]
set_option maxRecDepth 10000 in
set_option maxHeartbeats 4000000 in
theorem named_ok (M : Mem) (L : HL) (s : ByteArray) : TrQ Tryz.prog 144 [.string s] M L (.bool (namedR s)) := by
  refine Tr.intro 15 Tryz.func144 rfl rfl Tryz.call144 rfl ?_
  intro C hC hro
  repeat (first | with_reducible (first | refine zS ?_ | refine zR ?_ | refine zN ?_ | refine zK ?_ | refine zB ?_ | refine zI ?_) | refine zE rfl ?_ | refine wq ?_ | refine wg ?_ | refine ws ?_ | refine wb fun _ => ?_ | refine wa fun _ => ?_ | refine wl fun _ => ?_ | (refine runL_op (st_rangeS tok rfl rfl) rfl rfl rfl ?_; rintro _ _ _ ⟨b, rfl, rfl, rfl⟩))
  refine run_loopN (fun i σ1 M1 L1 => i ≤ s.size ∧ ∃ p, i ≤ p ∧ namedAt s (s.size + 1 - i) p = namedAt s (s.size + 1) 0 ∧ σ1 = [(6, .pointer (some ⟨b, 0, none⟩)), (0, .string s)] ∧ M = M1 ∧ L1 = (b, .stringIter s p) :: L) s.size [(6, .pointer (some ⟨b, 0, none⟩)), (0, .string s)] ?_ ⟨Nat.zero_le _, 0, Nat.le_refl _, rfl, rfl, rfl, rfl⟩ (fun j _ _ _ h => h.1) ?_
  · exact ⟨rfl, rfl, trivial⟩
  rintro i _ _ _ ⟨hi, p, hip, hn, rfl, rfl, rfl⟩ hnext
  by_cases hlt : p < s.size
  · have hw := decode_wide s hlt
    rw [show s.size + 1 - i = (s.size + 1 - (i + 1)) + 1 by omega, namedAt, if_pos hlt] at hn
    repeat (first | with_reducible (first | refine zS ?_ | refine zR ?_ | refine zN ?_ | refine zK ?_ | refine zB ?_ | refine zI ?_) | refine zE rfl ?_ | refine wq ?_ | refine wg ?_ | refine ws ?_ | refine wb fun _ => ?_ | refine wa fun _ => ?_ | refine wl fun _ => ?_ | (refine runL_op (st_nextS rfl (by (repeat (first | with_reducible apply Upd.here | with_reducible apply Upd.there | with_reducible apply Upd.append_left))) hlt) rfl rfl rfl ?_; rintro _ _ _ ⟨rfl, rfl, rfl⟩))
    refine run_cond rfl (fun _ => ?_) (fun h => by cases h)
    repeat (first | with_reducible (first | refine zS ?_ | refine zR ?_ | refine zN ?_ | refine zK ?_ | refine zB ?_ | refine zI ?_) | refine zE rfl ?_ | refine wq ?_ | refine wg ?_ | refine ws ?_ | refine wb fun _ => ?_ | refine wa fun _ => ?_ | refine wl fun _ => ?_ | refine runL_q (qt_callF rfl (fun _ => containsRune_ok _ _ _)) rfl rfl rfl ?_)
    refine run_cond rfl (fun h2 => ?_) (fun h2 => ?_)
    · have h3 : inAbc (Utf8.decode s p).1 = false := by simpa using h2
      repeat (first | with_reducible (first | refine zS ?_ | refine zR ?_ | refine zN ?_ | refine zK ?_ | refine zB ?_ | refine zI ?_) | refine zE rfl ?_ | refine wq ?_ | refine wg ?_ | refine ws ?_ | refine wb fun _ => ?_ | refine wa fun _ => ?_ | refine wl fun _ => ?_)
      refine run_ret hC (rs := [.tmp 2]) rfl (resT rfl resN) (fun _ h => h.drop) ⟨?_, rfl, rfl⟩
      rw [namedR, ← hn, h3]; rfl
    · have h3 : inAbc (Utf8.decode s p).1 = true := by simpa using h2
      repeat (first | with_reducible (first | refine zS ?_ | refine zR ?_ | refine zN ?_ | refine zK ?_ | refine zB ?_ | refine zI ?_) | refine zE rfl ?_ | refine wq ?_ | refine wg ?_ | refine ws ?_ | refine wb fun _ => ?_ | refine wa fun _ => ?_ | refine wl fun _ => ?_)
      exact run_sub' (hnext _ _ _ ⟨by omega, p + (Utf8.decode s p).2, by omega, by rw [← hn, h3]; rfl, rfl, rfl, rfl⟩) ⟨rfl, rfl, trivial⟩
  · rw [namedAt_end s hlt] at hn
    repeat (first | with_reducible (first | refine zS ?_ | refine zR ?_ | refine zN ?_ | refine zK ?_ | refine zB ?_ | refine zI ?_) | refine zE rfl ?_ | refine wq ?_ | refine wg ?_ | refine ws ?_ | refine wb fun _ => ?_ | refine wa fun _ => ?_ | refine wl fun _ => ?_ | refine runL_q (qt_nextEnd rfl (by (repeat (first | with_reducible apply List.mem_cons_self | with_reducible assumption | with_reducible apply List.mem_cons_of_mem | with_reducible apply List.mem_append_right))) hlt) rfl rfl rfl ?_)
    refine run_cond rfl (fun h => by cases h) (fun _ => ?_)
    repeat (first | with_reducible (first | refine zS ?_ | refine zR ?_ | refine zN ?_ | refine zK ?_ | refine zB ?_ | refine zI ?_) | refine zE rfl ?_ | refine wq ?_ | refine wg ?_ | refine ws ?_ | refine wb fun _ => ?_ | refine wa fun _ => ?_ | refine wl fun _ => ?_)
    refine run_ret hC (rs := [.tmp 2]) rfl (resT rfl resN) (fun _ h => h.drop) ⟨?_, rfl, rfl⟩
    rw [namedR, ← hn, empty_beq]
    by_cases h0 : s.size = 0
    · simp [h0]; rfl
    · simp [h0]; rfl

/-! ### texts -/
theorem u64_pos (k : IntKind) (h : k = .u64) (x : Int) : 0 ≤ k.wrap x ∧ k.wrap x < 18446744073709551616 := by
  subst h
  simp only [IntKind.wrap, IntKind.signed, IntKind.bits]
  simp
  omega
theorem byte_pos (s : ByteArray) (i : Nat) : 0 ≤ byte s i ∧ byte s i < 256 := by
  have := ((s[i]?).getD 0).toNat_lt
  simp only [byte]
  omega
theorem numV_pos (s : ByteArray) (i : Nat) : 0 ≤ numV s i := by
  cases i with
  | zero => exact Int.le_refl _
  | succ i => exact (u64_pos .u64 rfl _).1
theorem numR_pos (s : ByteArray) : 0 ≤ (numR s).1 := by
  unfold numR
  repeat' split
  all_goals first | exact Int.le_refl _ | exact (byte_pos _ _).1 | exact numV_pos _ _
theorem numR_len (s : ByteArray) (h : (numR s).2.2 = 0) : ∃ n : Nat, (numR s).2.1 = n ∧ 1 ≤ n ∧ n ≤ s.size := by
  have hb := byte_pos s 0
  have hr : s.size ≠ 0 → (rest1 s).size = s.size - 1 := fun _ => by simp [rest1]
  unfold numR at h ⊢
  split at h
  · cases h
  · rename_i h0
    rw [if_neg h0]
    split at h
    · rename_i h1; rw [if_pos h1]; exact ⟨1, rfl, by omega, by omega⟩
    · rename_i h1
      rw [if_neg h1]
      split at h
      · cases h
      · rename_i h2
        rw [if_neg h2]
        split at h
        · cases h
        · rename_i h3
          rw [if_neg h3]
          have := hr h0
          exact ⟨(byte s 0 - 247 + 1).toNat, show byte s 0 - 247 + 1 = _ by omega, by omega, by omega⟩
/-- a text at the front -/
def textR (s : ByteArray) (most : Nat) : ByteArray × Int × Int :=
  if (numR s).2.2 ≠ 0 then (⟨#[]⟩, 0, (numR s).2.2) else
  if (most : Int) < (numR s).1 then (⟨#[]⟩, 0, 5) else
  if (s.size : Int) - (numR s).2.1 < (numR s).1 then (⟨#[]⟩, 0, 6) else
  (s.extract (numR s).2.1.toNat ((numR s).2.1 + (numR s).1).toNat, (numR s).2.1 + (numR s).1, 0)
theorem u64_nat {n : Nat} (h : n < 18446744073709551616) : IntKind.u64.wrap (n : Int) = n := by
  simp only [IntKind.wrap, IntKind.signed, IntKind.bits]
  simp
  omega
set_option maxRecDepth 10000 in
set_option maxHeartbeats 4000000 in
theorem readText_ok (M : Mem) (L : HL) (s : ByteArray) (most : Nat) (hs : s.size < 4611686018427387904) (hm : most < 4611686018427387904) : TrQ Tryz.prog 97 [.string s, .int .i64 (most : Int)] M L (.tuple ⟨[.string (textR s most).1, .int .i64 (textR s most).2.1, .int .i64 (textR s most).2.2]⟩) := by
  refine Tr.intro 43 Tryz.func97 rfl rfl Tryz.call97 rfl ?_
  intro C hC hro
  repeat (first | with_reducible (first | refine zS ?_ | refine zR ?_ | refine zN ?_ | refine zK ?_ | refine zB ?_ | refine zI ?_) | refine zE rfl ?_ | refine wq ?_ | refine wg ?_ | refine ws ?_ | refine wb fun _ => ?_ | refine wa fun _ => ?_ | refine wl fun _ => ?_ | refine runL_q (qt_callF rfl (fun _ => readNum_ok _ _ s)) rfl rfl rfl ?_)
  refine run_cond rfl (fun h => ?_) (fun h => ?_)
  · have h0 : (numR s).2.2 ≠ 0 := by simpa using h
    repeat (first | with_reducible (first | refine zS ?_ | refine zR ?_ | refine zN ?_ | refine zK ?_ | refine zB ?_ | refine zI ?_) | refine zE rfl ?_ | refine wq ?_ | refine wg ?_ | refine ws ?_ | refine wb fun _ => ?_ | refine wa fun _ => ?_ | refine wl fun _ => ?_)
    exact run_ret hC (rs := [.tmp 4, .tmp 5, .tmp 6]) rfl (resT rfl (resT rfl (resT rfl resN))) (fun _ h => h) ⟨by rw [textR, if_pos h0]; rfl, rfl, rfl⟩
  have h0 : (numR s).2.2 = 0 := by simpa using h
  obtain ⟨n, hn, hn1, hn2⟩ := numR_len s h0
  have hv0 := numR_pos s
  have e1 : IntKind.u64.wrap (if (0 : Int) > (most : Int) then 0 else (most : Int)) = (most : Int) := by rw [if_neg (by omega), u64_nat (by omega)]
  repeat (first | with_reducible (first | refine zS ?_ | refine zR ?_ | refine zN ?_ | refine zK ?_ | refine zB ?_ | refine zI ?_) | refine zE rfl ?_ | refine wq ?_ | refine wg ?_ | refine ws ?_ | refine wb fun _ => ?_ | refine wa fun _ => ?_ | refine wl fun _ => ?_ | refine runL_q (qt_max2 rfl rfl) rfl rfl rfl ?_)
  refine run_cond rfl (fun h1 => ?_) (fun h1 => ?_)
  · rw [e1] at h1
    have h2 : (most : Int) < (numR s).1 := by simpa using h1
    repeat (first | with_reducible (first | refine zS ?_ | refine zR ?_ | refine zN ?_ | refine zK ?_ | refine zB ?_ | refine zI ?_) | refine zE rfl ?_ | refine wq ?_ | refine wg ?_ | refine ws ?_ | refine wb fun _ => ?_ | refine wa fun _ => ?_ | refine wl fun _ => ?_)
    exact run_ret hC (rs := [.tmp 4, .tmp 5, .tmp 6]) rfl (resT rfl (resT rfl (resT rfl resN))) (fun _ h => h) ⟨by rw [textR, if_neg (by simp [h0]), if_pos h2]; rfl, rfl, rfl⟩
  rw [e1] at h1
  have h2 : ¬ (most : Int) < (numR s).1 := by simpa using h1
  have e2 : IntKind.u64.wrap (IntKind.i64.wrap ((s.size : Int) - (numR s).2.1)) = (s.size : Int) - (numR s).2.1 := by
    rw [hn, show (s.size : Int) - (n : Int) = ((s.size - n : Nat) : Int) by omega, wrap64_nat (by omega), u64_nat (by omega)]
  obtain ⟨v, hv⟩ : ∃ v : Nat, (numR s).1 = v := ⟨(numR s).1.toNat, by omega⟩
  repeat (first | with_reducible (first | refine zS ?_ | refine zR ?_ | refine zN ?_ | refine zK ?_ | refine zB ?_ | refine zI ?_) | refine zE rfl ?_ | refine wq ?_ | refine wg ?_ | refine ws ?_ | refine wb fun _ => ?_ | refine wa fun _ => ?_ | refine wl fun _ => ?_)
  refine run_cond rfl (fun h3 => ?_) (fun h3 => ?_)
  · have h4 : (s.size : Int) - (numR s).2.1 < (numR s).1 := by
      have := of_decide_eq_true h3
      rwa [e2] at this
    repeat (first | with_reducible (first | refine zS ?_ | refine zR ?_ | refine zN ?_ | refine zK ?_ | refine zB ?_ | refine zI ?_) | refine zE rfl ?_ | refine wq ?_ | refine wg ?_ | refine ws ?_ | refine wb fun _ => ?_ | refine wa fun _ => ?_ | refine wl fun _ => ?_)
    exact run_ret hC (rs := [.tmp 4, .tmp 5, .tmp 6]) rfl (resT rfl (resT rfl (resT rfl resN))) (fun _ h => h) ⟨by rw [textR, if_neg (by simp [h0]), if_neg h2, if_pos h4]; rfl, rfl, rfl⟩
  have h4 : ¬ (s.size : Int) - (numR s).2.1 < (numR s).1 := by
    have := of_decide_eq_false h3
    rwa [e2] at this
  refine run_as 5 (.int .i64 (n : Int)) rfl (by rw [hn]) ?_
  refine run_as 7 (.int .u64 (v : Int)) rfl (by rw [hv]) ?_
  have e3 : IntKind.i64.wrap ((n : Int) + IntKind.i64.wrap (v : Int)) = ((n + v : Nat) : Int) := by
    rw [wrap64_nat (by omega), show (n : Int) + (v : Int) = ((n + v : Nat) : Int) by omega, wrap64_nat (by omega)]
  repeat (first | with_reducible (first | refine zS ?_ | refine zR ?_ | refine zN ?_ | refine zK ?_ | refine zB ?_ | refine zI ?_) | refine zE rfl ?_ | refine wq ?_ | refine wg ?_ | refine ws ?_ | refine wb fun _ => ?_ | refine wa fun _ => ?_ | refine wl fun _ => ?_)
  refine runL_as 37 (.int .i64 ((n + v : Nat) : Int)) rfl (by rw [e3]) ?_
  repeat (first | with_reducible (first | refine zS ?_ | refine zR ?_ | refine zN ?_ | refine zK ?_ | refine zB ?_ | refine zI ?_) | refine zE rfl ?_ | refine wq ?_ | refine wg ?_ | refine ws ?_ | refine wb fun _ => ?_ | refine wa fun _ => ?_ | refine wl fun _ => ?_ | refine runL_q (qt_strMid tok rfl rfl rfl rfl (fun _ => ⟨by omega, by omega⟩)) rfl rfl rfl ?_)
  refine run_ret hC (rs := [.tmp 4, .tmp 5, .tmp 6]) rfl (resT rfl (resT rfl (resT rfl resN))) (fun _ h => h) ⟨?_, rfl, rfl⟩
  rw [textR, if_neg (by simp [h0]), if_neg h2, if_neg h4, e3, hn, hv, show ((n : Int) + (v : Int)).toNat = n + v by omega, Int.toNat_natCast, show (n : Int) + (v : Int) = ((n + v : Nat) : Int) by omega]
  rfl
end Go.Proofs.YtkjljcgbnikmkaaGreatDoor
namespace Go.Proofs.YtkjljcgbnikmkaaGreatDoor
open Go.Chi
set_option maxRecDepth 10000

theorem runL_must {C : Cx} {n : Nat} {ops : Array Oper} {k : List Item} {ds : List Deferred} {σ : Env} {δ : Den} {M : Mem} {L : HL} {d : Nat} {ty : TypeId} {pos : String} {aft : Array Edge} {l : List Oper} {args : Array Operand} {tys : Array TypeId} {e : Int}
    (ha : evs σ δ [] args.toList = some [.int .i64 e]) (hd : Nat.blt d n = true) (hn : lkd δ d = none) (hu : unNamed δ d = true)
    (h0 : e = 0 → RunL Tryz.prog C n ops l k ds ((d, .tuple ⟨[]⟩) :: σ) δ M L) (h1 : e ≠ 0 → RunX Tryz.prog C n (.panicking (pan e)) ds σ M L) :
    RunL Tryz.prog C n ops (⟨some d, .call ⟨.value (.func 139), args, tys⟩, ty, pos, aft, none⟩ :: l) k ds σ δ M L := by
  refine runL_callE ha (must_ok _ _ e) hd hn hu ?_ ?_
  · rintro v _ _ ⟨rfl, rfl, hv⟩
    by_cases he : e = 0
    · rw [if_pos he, Ending.returned.injEq] at hv; subst hv; exact h0 he
    · rw [if_neg he] at hv; cases hv
  · rintro v _ _ ⟨rfl, rfl, hv⟩
    by_cases he : e = 0
    · rw [if_pos he] at hv; cases hv
    · rw [if_neg he, Ending.panicked.injEq] at hv; subst hv; exact h1 he

/-- what stands ahead of a term's parts, and how many these are; or why there is none -/
def frontR (s : ByteArray) : Except Int (Nat × Nat) :=
  if s.size = 0 then .error 6 else
  if byte s 0 = 100 then (if (textR (rest1 s) 1024).2.2 ≠ 0 then .error (textR (rest1 s) 1024).2.2 else .ok ((1 + (textR (rest1 s) 1024).2.1).toNat, 0)) else
  if byte s 0 = 97 then (if (textR (rest1 s) 32).2.2 ≠ 0 then .error (textR (rest1 s) 32).2.2 else if namedR (textR (rest1 s) 32).1 = false then .error 7 else .ok ((1 + (textR (rest1 s) 32).2.1).toNat, 0)) else
  if byte s 0 = 114 then (if (numR (rest1 s)).2.2 ≠ 0 then .error (numR (rest1 s)).2.2 else if 32 < (numR (rest1 s)).1 then .error 5 else .ok ((1 + (numR (rest1 s)).2.1).toNat, (numR (rest1 s)).1.toNat)) else
  if byte s 0 = 104 then .ok (1, 1) else
  if byte s 0 = 109 then .ok (1, 2) else
  if byte s 0 = 115 then .ok (1, 3) else .error 7
def frontK (r : Except Int (Nat × Nat)) (M : Mem) (L : HL) (en : Ending) (M' : Mem) (L' : HL) : Prop := M = M' ∧ L = L' ∧ match r with | .ok x => en = .returned (.tuple ⟨[.int .i64 (x.1 : Int), .int .i64 (x.2 : Int)]⟩) | .error e => en = .panicked (pan e)
theorem textR_len (s : ByteArray) (most : Nat) (h : (textR s most).2.2 = 0) : ∃ n : Nat, (textR s most).2.1 = n ∧ 1 ≤ n ∧ n ≤ s.size := by
  have hv := numR_pos s
  unfold textR at h ⊢
  split at h
  · rename_i h1; exact absurd h h1
  · rename_i h0
    obtain ⟨n, hn, h1, h2⟩ := numR_len s (by simpa using h0)
    rw [if_neg h0]
    split at h
    · cases h
    · rename_i h3
      rw [if_neg h3]
      split at h
      · cases h
      · rename_i h4
        rw [if_neg h4]
        exact ⟨((numR s).2.1 + (numR s).1).toNat, show (numR s).2.1 + (numR s).1 = _ by omega, by omega, by omega⟩
theorem rest1_size {s : ByteArray} : (rest1 s).size = s.size - 1 := by simp [rest1]
theorem byte_eq {s : ByteArray} {b : UInt8} {c : Int} (h : byte s 0 = (b.toNat : Int)) {t : Bool} (hb : (((b.toNat : Int) == c)) = t) : (if t then byte s 0 = c else byte s 0 ≠ c) := by
  subst hb
  split <;> rename_i h1 <;> rw [h] <;> simpa using h1
theorem one_wrap {n : Nat} (h : n < 4611686018427387904) : IntKind.i64.wrap (1 + (n : Int)) = ((1 + n : Nat) : Int) := by
  rw [show (1 : Int) + (n : Int) = ((1 + n : Nat) : Int) by omega, wrap64_nat (by omega)]
set_option maxRecDepth 10000 in
set_option maxHeartbeats 8000000 in
theorem front_ok (M : Mem) (L : HL) (s : ByteArray) (hs : s.size < 4611686018427387904) : TrE Tryz.prog 142 [.string s] M L (frontK (frontR s) M L) := by
  refine TrE.intro 73 Tryz.func142 rfl rfl Tryz.call142 rfl ?_
  intro C hC hro
  repeat (first | with_reducible (first | refine zS ?_ | refine zR ?_ | refine zN ?_ | refine zK ?_ | refine zB ?_ | refine zI ?_) | refine zE rfl ?_ | refine wq ?_ | refine wg ?_ | refine ws ?_ | refine wb fun _ => ?_ | refine wa fun _ => ?_ | refine wl fun _ => ?_)
  refine run_cond rfl (fun h => ?_) (fun h => ?_)
  · repeat (first | with_reducible (first | refine zS ?_ | refine zR ?_ | refine zN ?_ | refine zK ?_ | refine zB ?_ | refine zI ?_) | refine zE rfl ?_ | refine wq ?_ | refine wg ?_ | refine ws ?_ | refine wb fun _ => ?_ | refine wa fun _ => ?_ | refine wl fun _ => ?_)
    rw [empty_beq, decide_eq_true_eq] at h
    refine runL_must rfl rfl rfl rfl (fun h => by cases h) (fun _ => ?_)
    exact runX_pan hC (fun _ h => h) ⟨rfl, rfl, by rw [frontR, if_pos h]⟩
  rw [empty_beq, decide_eq_false_iff_not] at h
  have hp : 0 < s.size := by omega
  obtain ⟨b0, hb0, hb0'⟩ := byte_at hp
  have hr : (rest1 s).size < 4611686018427387904 := by rw [rest1_size]; omega
  repeat (first | with_reducible (first | refine zS ?_ | refine zR ?_ | refine zN ?_ | refine zK ?_ | refine zB ?_ | refine zI ?_) | refine zE rfl ?_ | refine wq ?_ | refine wg ?_ | refine ws ?_ | refine wb fun _ => ?_ | refine wa fun _ => ?_ | refine wl fun _ => ?_ | refine runL_q (qt_strIndex (n := 0) tok rfl rfl rfl (fun _ => hb0)) rfl rfl rfl ?_)
  refine run_cond rfl (fun h1 => ?_) (fun h1 => ?_)
  · have hb1 : byte s 0 = 100 := byte_eq hb0' h1
    repeat (first | with_reducible (first | refine zS ?_ | refine zR ?_ | refine zN ?_ | refine zK ?_ | refine zB ?_ | refine zI ?_) | refine zE rfl ?_ | refine wq ?_ | refine wg ?_ | refine ws ?_ | refine wb fun _ => ?_ | refine wa fun _ => ?_ | refine wl fun _ => ?_ | refine runL_q (qt_strLo (n := 1) tok rfl rfl rfl (fun _ => hp)) rfl rfl rfl ?_ | refine runL_q (qt_callF rfl (fun _ => readText_ok _ _ (rest1 s) 1024 hr (by decide))) rfl rfl rfl ?_)
    refine runL_must rfl rfl rfl rfl (fun h2 => ?_) (fun h2 => ?_)
    · obtain ⟨m, hm, hm1, hm2⟩ := textR_len _ _ h2
      repeat (first | with_reducible (first | refine zS ?_ | refine zR ?_ | refine zN ?_ | refine zK ?_ | refine zB ?_ | refine zI ?_) | refine zE rfl ?_ | refine wq ?_ | refine wg ?_ | refine ws ?_ | refine wb fun _ => ?_ | refine wa fun _ => ?_ | refine wl fun _ => ?_)
      refine run_retX hro ?_
      refine runX_ret hC (rs := [.tmp 2, .tmp 3]) rfl (resT rfl (resT rfl resN)) (fun _ h => h) ⟨rfl, rfl, ?_⟩
      rw [frontR, if_neg h, if_pos hb1, if_neg (by simp [h2]), hm, one_wrap (by omega), show (1 + (m : Int)).toNat = 1 + m by omega]
      rfl
    · exact runX_pan hC (fun _ h => h) ⟨rfl, rfl, by rw [frontR, if_neg h, if_pos hb1, if_pos h2]⟩
  have hb1 : byte s 0 ≠ 100 := byte_eq hb0' h1
  repeat (first | with_reducible (first | refine zS ?_ | refine zR ?_ | refine zN ?_ | refine zK ?_ | refine zB ?_ | refine zI ?_) | refine zE rfl ?_ | refine wq ?_ | refine wg ?_ | refine ws ?_ | refine wb fun _ => ?_ | refine wa fun _ => ?_ | refine wl fun _ => ?_)
  refine run_cond rfl (fun h1 => ?_) (fun h1 => ?_)
  · have hb2 : byte s 0 = 97 := byte_eq hb0' h1
    repeat (first | with_reducible (first | refine zS ?_ | refine zR ?_ | refine zN ?_ | refine zK ?_ | refine zB ?_ | refine zI ?_) | refine zE rfl ?_ | refine wq ?_ | refine wg ?_ | refine ws ?_ | refine wb fun _ => ?_ | refine wa fun _ => ?_ | refine wl fun _ => ?_ | refine runL_q (qt_strLo (n := 1) tok rfl rfl rfl (fun _ => hp)) rfl rfl rfl ?_ | refine runL_q (qt_callF rfl (fun _ => readText_ok _ _ (rest1 s) 32 hr (by decide))) rfl rfl rfl ?_)
    refine runL_must rfl rfl rfl rfl (fun h2 => ?_) (fun h2 => ?_)
    · obtain ⟨m, hm, hm1, hm2⟩ := textR_len _ _ h2
      repeat (first | with_reducible (first | refine zS ?_ | refine zR ?_ | refine zN ?_ | refine zK ?_ | refine zB ?_ | refine zI ?_) | refine zE rfl ?_ | refine wq ?_ | refine wg ?_ | refine ws ?_ | refine wb fun _ => ?_ | refine wa fun _ => ?_ | refine wl fun _ => ?_ | refine runL_q (qt_callF rfl (fun _ => named_ok _ _ _)) rfl rfl rfl ?_)
      refine run_cond rfl (fun h3 => ?_) (fun h3 => ?_)
      · have h4 : namedR (textR (rest1 s) 32).1 = false := by simpa using h3
        repeat (first | with_reducible (first | refine zS ?_ | refine zR ?_ | refine zN ?_ | refine zK ?_ | refine zB ?_ | refine zI ?_) | refine zE rfl ?_ | refine wq ?_ | refine wg ?_ | refine ws ?_ | refine wb fun _ => ?_ | refine wa fun _ => ?_ | refine wl fun _ => ?_)
        refine runL_must rfl rfl rfl rfl (fun h => by cases h) (fun _ => ?_)
        exact runX_pan hC (fun _ h => h) ⟨rfl, rfl, by rw [frontR, if_neg h, if_neg hb1, if_pos hb2, if_neg (by simp [h2]), if_pos h4]⟩
      · have h4 : ¬ namedR (textR (rest1 s) 32).1 = false := by simpa using h3
        repeat (first | with_reducible (first | refine zS ?_ | refine zR ?_ | refine zN ?_ | refine zK ?_ | refine zB ?_ | refine zI ?_) | refine zE rfl ?_ | refine wq ?_ | refine wg ?_ | refine ws ?_ | refine wb fun _ => ?_ | refine wa fun _ => ?_ | refine wl fun _ => ?_)
        refine run_retX hro ?_
        refine runX_ret hC (rs := [.tmp 2, .tmp 3]) rfl (resT rfl (resT rfl resN)) (fun _ h => h) ⟨rfl, rfl, ?_⟩
        rw [frontR, if_neg h, if_neg hb1, if_pos hb2, if_neg (by simp [h2]), if_neg h4, hm, one_wrap (by omega), show (1 + (m : Int)).toNat = 1 + m by omega]
        rfl
    · exact runX_pan hC (fun _ h => h) ⟨rfl, rfl, by rw [frontR, if_neg h, if_neg hb1, if_pos hb2, if_pos h2]⟩
  have hb2 : byte s 0 ≠ 97 := byte_eq hb0' h1
  repeat (first | with_reducible (first | refine zS ?_ | refine zR ?_ | refine zN ?_ | refine zK ?_ | refine zB ?_ | refine zI ?_) | refine zE rfl ?_ | refine wq ?_ | refine wg ?_ | refine ws ?_ | refine wb fun _ => ?_ | refine wa fun _ => ?_ | refine wl fun _ => ?_)
  refine run_cond rfl (fun h1 => ?_) (fun h1 => ?_)
  · have hb3 : byte s 0 = 114 := byte_eq hb0' h1
    repeat (first | with_reducible (first | refine zS ?_ | refine zR ?_ | refine zN ?_ | refine zK ?_ | refine zB ?_ | refine zI ?_) | refine zE rfl ?_ | refine wq ?_ | refine wg ?_ | refine ws ?_ | refine wb fun _ => ?_ | refine wa fun _ => ?_ | refine wl fun _ => ?_ | refine runL_q (qt_strLo (n := 1) tok rfl rfl rfl (fun _ => hp)) rfl rfl rfl ?_ | refine runL_q (qt_callF rfl (fun _ => readNum_ok _ _ (rest1 s))) rfl rfl rfl ?_)
    refine runL_must rfl rfl rfl rfl (fun h2 => ?_) (fun h2 => ?_)
    · obtain ⟨m, hm, hm1, hm2⟩ := numR_len _ h2
      have hv0 := numR_pos (rest1 s)
      repeat (first | with_reducible (first | refine zS ?_ | refine zR ?_ | refine zN ?_ | refine zK ?_ | refine zB ?_ | refine zI ?_) | refine zE rfl ?_ | refine wq ?_ | refine wg ?_ | refine ws ?_ | refine wb fun _ => ?_ | refine wa fun _ => ?_ | refine wl fun _ => ?_)
      refine run_cond rfl (fun h3 => ?_) (fun h3 => ?_)
      · have h4 : 32 < (numR (rest1 s)).1 := by simpa using h3
        repeat (first | with_reducible (first | refine zS ?_ | refine zR ?_ | refine zN ?_ | refine zK ?_ | refine zB ?_ | refine zI ?_) | refine zE rfl ?_ | refine wq ?_ | refine wg ?_ | refine ws ?_ | refine wb fun _ => ?_ | refine wa fun _ => ?_ | refine wl fun _ => ?_)
        refine runL_must rfl rfl rfl rfl (fun h => by cases h) (fun _ => ?_)
        exact runX_pan hC (fun _ h => h) ⟨rfl, rfl, by rw [frontR, if_neg h, if_neg hb1, if_neg hb2, if_pos hb3, if_neg (by simp [h2]), if_pos h4]⟩
      · have h4 : ¬ 32 < (numR (rest1 s)).1 := by simpa using h3
        repeat (first | with_reducible (first | refine zS ?_ | refine zR ?_ | refine zN ?_ | refine zK ?_ | refine zB ?_ | refine zI ?_) | refine zE rfl ?_ | refine wq ?_ | refine wg ?_ | refine ws ?_ | refine wb fun _ => ?_ | refine wa fun _ => ?_ | refine wl fun _ => ?_)
        refine run_retX hro ?_
        refine runX_ret hC (rs := [.tmp 2, .tmp 3]) rfl (resT rfl (resT rfl resN)) (fun _ h => h) ⟨rfl, rfl, ?_⟩
        obtain ⟨v, hv⟩ : ∃ v : Nat, (numR (rest1 s)).1 = v := ⟨(numR (rest1 s)).1.toNat, by omega⟩
        rw [frontR, if_neg h, if_neg hb1, if_neg hb2, if_pos hb3, if_neg (by simp [h2]), if_neg h4, hm, hv, one_wrap (by omega), wrap64_nat (by omega), show (1 + (m : Int)).toNat = 1 + m by omega, Int.toNat_natCast]
        rfl
    · exact runX_pan hC (fun _ h => h) ⟨rfl, rfl, by rw [frontR, if_neg h, if_neg hb1, if_neg hb2, if_pos hb3, if_pos h2]⟩
  have hb3 : byte s 0 ≠ 114 := byte_eq hb0' h1
  repeat (first | with_reducible (first | refine zS ?_ | refine zR ?_ | refine zN ?_ | refine zK ?_ | refine zB ?_ | refine zI ?_) | refine zE rfl ?_ | refine wq ?_ | refine wg ?_ | refine ws ?_ | refine wb fun _ => ?_ | refine wa fun _ => ?_ | refine wl fun _ => ?_)
  refine run_cond rfl (fun h1 => ?_) (fun h1 => ?_)
  · have hb4 : byte s 0 = 104 := byte_eq hb0' h1
    repeat (first | with_reducible (first | refine zS ?_ | refine zR ?_ | refine zN ?_ | refine zK ?_ | refine zB ?_ | refine zI ?_) | refine zE rfl ?_ | refine wq ?_ | refine wg ?_ | refine ws ?_ | refine wb fun _ => ?_ | refine wa fun _ => ?_ | refine wl fun _ => ?_)
    refine run_retX hro ?_
    refine runX_ret hC (rs := [.tmp 2, .tmp 3]) rfl (resT rfl (resT rfl resN)) (fun _ h => h) ⟨rfl, rfl, ?_⟩
    rw [frontR, if_neg h, if_neg hb1, if_neg hb2, if_neg hb3, if_pos hb4]; rfl
  have hb4 : byte s 0 ≠ 104 := byte_eq hb0' h1
  repeat (first | with_reducible (first | refine zS ?_ | refine zR ?_ | refine zN ?_ | refine zK ?_ | refine zB ?_ | refine zI ?_) | refine zE rfl ?_ | refine wq ?_ | refine wg ?_ | refine ws ?_ | refine wb fun _ => ?_ | refine wa fun _ => ?_ | refine wl fun _ => ?_)
  refine run_cond rfl (fun h1 => ?_) (fun h1 => ?_)
  · have hb5 : byte s 0 = 109 := byte_eq hb0' h1
    repeat (first | with_reducible (first | refine zS ?_ | refine zR ?_ | refine zN ?_ | refine zK ?_ | refine zB ?_ | refine zI ?_) | refine zE rfl ?_ | refine wq ?_ | refine wg ?_ | refine ws ?_ | refine wb fun _ => ?_ | refine wa fun _ => ?_ | refine wl fun _ => ?_)
    refine run_retX hro ?_
    refine runX_ret hC (rs := [.tmp 2, .tmp 3]) rfl (resT rfl (resT rfl resN)) (fun _ h => h) ⟨rfl, rfl, ?_⟩
    rw [frontR, if_neg h, if_neg hb1, if_neg hb2, if_neg hb3, if_neg hb4, if_pos hb5]; rfl
  have hb5 : byte s 0 ≠ 109 := byte_eq hb0' h1
  repeat (first | with_reducible (first | refine zS ?_ | refine zR ?_ | refine zN ?_ | refine zK ?_ | refine zB ?_ | refine zI ?_) | refine zE rfl ?_ | refine wq ?_ | refine wg ?_ | refine ws ?_ | refine wb fun _ => ?_ | refine wa fun _ => ?_ | refine wl fun _ => ?_)
  refine run_cond rfl (fun h1 => ?_) (fun h1 => ?_)
  · have hb6 : byte s 0 = 115 := byte_eq hb0' h1
    repeat (first | with_reducible (first | refine zS ?_ | refine zR ?_ | refine zN ?_ | refine zK ?_ | refine zB ?_ | refine zI ?_) | refine zE rfl ?_ | refine wq ?_ | refine wg ?_ | refine ws ?_ | refine wb fun _ => ?_ | refine wa fun _ => ?_ | refine wl fun _ => ?_)
    refine run_retX hro ?_
    refine runX_ret hC (rs := [.tmp 2, .tmp 3]) rfl (resT rfl (resT rfl resN)) (fun _ h => h) ⟨rfl, rfl, ?_⟩
    rw [frontR, if_neg h, if_neg hb1, if_neg hb2, if_neg hb3, if_neg hb4, if_neg hb5, if_pos hb6]; rfl
  have hb6 : byte s 0 ≠ 115 := byte_eq hb0' h1
  repeat (first | with_reducible (first | refine zS ?_ | refine zR ?_ | refine zN ?_ | refine zK ?_ | refine zB ?_ | refine zI ?_) | refine zE rfl ?_ | refine wq ?_ | refine wg ?_ | refine ws ?_ | refine wb fun _ => ?_ | refine wa fun _ => ?_ | refine wl fun _ => ?_)
  refine runL_must rfl rfl rfl rfl (fun h => by cases h) (fun _ => ?_)
  exact runX_pan hC (fun _ h => h) ⟨rfl, rfl, by rw [frontR, if_neg h, if_neg hb1, if_neg hb2, if_neg hb3, if_neg hb4, if_neg hb5, if_neg hb6]⟩
end Go.Proofs.YtkjljcgbnikmkaaGreatDoor
namespace Go.Proofs.YtkjljcgbnikmkaaGreatDoor
open Go.Chi
set_option maxRecDepth 10000

theorem frontR_len {s : ByteArray} {n p : Nat} (h : frontR s = .ok (n, p)) : 1 ≤ n ∧ n ≤ s.size ∧ p ≤ 32 := by
  have hr := rest1_size (s := s)
  unfold frontR at h
  split at h
  · cases h
  rename_i h0
  split at h
  · split at h
    · cases h
    · rename_i h2
      obtain ⟨m, hm, _, _⟩ := textR_len (rest1 s) 1024 (by simpa using h2)
      simp only [Except.ok.injEq, Prod.mk.injEq] at h
      omega
  split at h
  · split at h
    · cases h
    · split at h
      · cases h
      · rename_i h2 _
        obtain ⟨m, hm, _, _⟩ := textR_len (rest1 s) 32 (by simpa using h2)
        simp only [Except.ok.injEq, Prod.mk.injEq] at h
        omega
  split at h
  · split at h
    · cases h
    · split at h
      · cases h
      · rename_i h2 _
        obtain ⟨m, hm, _, _⟩ := numR_len (rest1 s) (by simpa using h2)
        simp only [Except.ok.injEq, Prod.mk.injEq] at h
        have := numR_pos (rest1 s)
        omega
  split at h
  · simp only [Except.ok.injEq, Prod.mk.injEq] at h; omega
  split at h
  · simp only [Except.ok.injEq, Prod.mk.injEq] at h; omega
  split at h
  · simp only [Except.ok.injEq, Prod.mk.injEq] at h; omega
  · cases h
/-- one reading behind the other -/
def iter (f : Nat → Except Int Nat) : Nat → Nat → Except Int Nat
  | 0, x => .ok x
  | i + 1, x => match f x with
    | .error e => .error e
    | .ok y => iter f i y
/-- where the term at a place ends, which has so many depths left -/
def walkR (s : ByteArray) : Nat → Nat → Except Int Nat
  | 0, _ => .error 60
  | k + 1, a => match frontR (s.extract a s.size) with
    | .error e => .error e
    | .ok x => iter (walkR s k) x.2 (a + x.1)
theorem iter_len {f : Nat → Except Int Nat} {N : Nat} (hf : ∀ x y, x ≤ N → f x = .ok y → y ≤ N) : ∀ i x y, x ≤ N → iter f i x = .ok y → y ≤ N
  | 0, x, y, hx, h => by rw [iter, Except.ok.injEq] at h; omega
  | i + 1, x, y, hx, h => by
    rw [iter] at h
    split at h
    · cases h
    · rename_i z hz
      exact iter_len hf i z y (hf _ _ hx hz) h
theorem walkR_len (s : ByteArray) : ∀ k a y, a ≤ s.size → walkR s k a = .ok y → y ≤ s.size
  | 0, a, y, _, h => by cases h
  | k + 1, a, y, ha, h => by
    rw [walkR] at h
    split at h
    · cases h
    · rename_i x hx
      have := frontR_len (n := x.1) (p := x.2) hx
      have hz : (s.extract a s.size).size = s.size - a := by simp
      exact iter_len (walkR_len s k) _ _ _ (by omega) h
set_option maxRecDepth 10000 in
set_option maxHeartbeats 4000000 in
theorem walk_ok (M : Mem) (s : ByteArray) (hs : s.size < 4611686018427387904) : ∀ (k : Nat), k ≤ 16 → ∀ (L : HL) (a : Nat), a ≤ s.size → TrE Tryz.prog 137 [.string s, .int .i64 (a : Int), .int .i64 ((17 - k : Nat) : Int), fv 138] M L (walkK (walkR s k a) M L) := by
  intro k
  induction k with
  | zero =>
    intro _ L a ha
    refine TrE.intro 41 Tryz.func137 rfl rfl Tryz.call137 rfl ?_
    intro C hC hro
    repeat (first | with_reducible (first | refine zS ?_ | refine zR ?_ | refine zN ?_ | refine zK ?_ | refine zB ?_ | refine zI ?_) | refine zE rfl ?_ | refine wq ?_ | refine wg ?_ | refine ws ?_ | refine wb fun _ => ?_ | refine wa fun _ => ?_ | refine wl fun _ => ?_)
    refine run_cond rfl (fun h => ?_) (fun h => by cases h)
    repeat (first | with_reducible (first | refine zS ?_ | refine zR ?_ | refine zN ?_ | refine zK ?_ | refine zB ?_ | refine zI ?_) | refine zE rfl ?_ | refine wq ?_ | refine wg ?_ | refine ws ?_ | refine wb fun _ => ?_ | refine wa fun _ => ?_ | refine wl fun _ => ?_)
    refine runL_must rfl rfl rfl rfl (fun h => by cases h) (fun _ => ?_)
    exact runX_pan hC (fun _ h => h) ⟨rfl, rfl, rfl⟩
  | succ k ih =>
    intro hk L a ha
    refine TrE.intro 41 Tryz.func137 rfl rfl Tryz.call137 rfl ?_
    intro C hC hro
    repeat (first | with_reducible (first | refine zS ?_ | refine zR ?_ | refine zN ?_ | refine zK ?_ | refine zB ?_ | refine zI ?_) | refine zE rfl ?_ | refine wq ?_ | refine wg ?_ | refine ws ?_ | refine wb fun _ => ?_ | refine wa fun _ => ?_ | refine wl fun _ => ?_)
    refine run_cond rfl (fun h => ?_) (fun h => ?_)
    · exfalso
      have : (16 : Int) < ((17 - (k + 1) : Nat) : Int) := by simpa using h
      omega
    have hz : (s.extract a s.size).size = s.size - a := by simp
    repeat (first | with_reducible (first | refine zS ?_ | refine zR ?_ | refine zN ?_ | refine zK ?_ | refine zB ?_ | refine zI ?_) | refine zE rfl ?_ | refine wq ?_ | refine wg ?_ | refine ws ?_ | refine wb fun _ => ?_ | refine wa fun _ => ?_ | refine wl fun _ => ?_ | refine runL_q (qt_strLo tok rfl rfl rfl (fun _ => ha)) rfl rfl rfl ?_)
    refine runL_callE rfl (front_ok _ _ _ (by omega)) rfl rfl rfl ?_ ?_
    rotate_left
    · rintro ch _ _ ⟨rfl, rfl, hv⟩
      cases hf : frontR (s.extract a s.size) with
      | ok x => rw [hf] at hv; cases hv
      | error e =>
        rw [hf] at hv
        simp only [Ending.panicked.injEq] at hv
        subst hv
        exact runX_pan hC (fun _ h => h) ⟨rfl, rfl, by rw [walkR, hf]⟩
    rintro v _ _ ⟨rfl, rfl, hv⟩
    cases hf : frontR (s.extract a s.size) with
    | error e => rw [hf] at hv; cases hv
    | ok x =>
      rw [hf] at hv
      simp only [Ending.returned.injEq] at hv
      subst hv
      have hx := frontR_len (n := x.1) (p := x.2) hf
      have hw : walkR s (k + 1) a = iter (walkR s k) x.2 (a + x.1) := by rw [walkR, hf]
      have e1 : IntKind.i64.wrap ((a : Int) + (x.1 : Int)) = ((a + x.1 : Nat) : Int) := by
        rw [show (a : Int) + (x.1 : Int) = ((a + x.1 : Nat) : Int) by omega, wrap64_nat (by omega)]
      repeat (first | with_reducible (first | refine zS ?_ | refine zR ?_ | refine zN ?_ | refine zK ?_ | refine zB ?_ | refine zI ?_) | refine zE rfl ?_ | refine wq ?_ | refine wg ?_ | refine ws ?_ | refine wb fun _ => ?_ | refine wa fun _ => ?_ | refine wl fun _ => ?_)
      refine run_loopN (fun i σ1 M1 L1 => i ≤ x.2 ∧ ∃ y, y ≤ s.size ∧ iter (walkR s k) (x.2 - i) y = walkR s (k + 1) a ∧ σ1 = [(0, .string s), (1, .int .i64 (a : Int)), (2, .int .i64 ((17 - (k + 1) : Nat) : Int)), (3, fv 138), (11, .int .i64 (y : Int)), (25, .int .i64 (x.2 : Int)), (26, .int .i64 (i : Int))] ∧ M = M1 ∧ L = L1) x.2 [(0, .string s), (1, .int .i64 (a : Int)), (2, .int .i64 ((17 - (k + 1) : Nat) : Int)), (3, fv 138), (11, .int .i64 ((a + x.1 : Nat) : Int)), (25, .int .i64 (x.2 : Int)), (26, .int .i64 ((0 : Nat) : Int))] ?_ ⟨Nat.zero_le _, a + x.1, by omega, hw.symm, rfl, rfl, rfl⟩ (fun j _ _ _ h => h.1) ?_
      · exact ⟨rfl, rfl, rfl, rfl, by rw [← e1]; rfl, rfl, rfl, trivial⟩
      rintro i _ _ _ ⟨hi, y, hy, hit, rfl, rfl, rfl⟩ hnext
      repeat (first | with_reducible (first | refine zS ?_ | refine zR ?_ | refine zN ?_ | refine zK ?_ | refine zB ?_ | refine zI ?_) | refine zE rfl ?_ | refine wq ?_ | refine wg ?_ | refine ws ?_ | refine wb fun _ => ?_ | refine wa fun _ => ?_ | refine wl fun _ => ?_)
      refine run_cond rfl (fun h5 => ?_) (fun h5 => ?_)
      · have hik : i < x.2 := by simpa using h5
        rw [show x.2 - i = (x.2 - (i + 1)) + 1 by omega, iter] at hit
        repeat (first | with_reducible (first | refine zS ?_ | refine zR ?_ | refine zN ?_ | refine zK ?_ | refine zB ?_ | refine zI ?_) | refine zE rfl ?_ | refine wq ?_ | refine wg ?_ | refine ws ?_ | refine wb fun _ => ?_ | refine wa fun _ => ?_ | refine wl fun _ => ?_)
        refine runL_as 31 (.int .i64 ((17 - k : Nat) : Int)) rfl (by rw [wrap64_succ (by omega), show 17 - (k + 1) + 1 = 17 - k by omega]) ?_
        repeat (first | with_reducible (first | refine zS ?_ | refine zR ?_ | refine zN ?_ | refine zK ?_ | refine zB ?_ | refine zI ?_) | refine zE rfl ?_ | refine wq ?_ | refine wg ?_ | refine ws ?_ | refine wb fun _ => ?_ | refine wa fun _ => ?_ | refine wl fun _ => ?_)
        refine runL_callE rfl (ih (by omega) _ _ hy) rfl rfl rfl ?_ ?_
        rotate_left
        · rintro ch _ _ ⟨rfl, rfl, hv⟩
          cases hg : walkR s k y with
          | ok z => rw [hg] at hv; cases hv
          | error e =>
            rw [hg] at hv hit
            simp only [Ending.panicked.injEq] at hv
            subst hv
            exact runX_pan hC (fun _ h => h) ⟨rfl, rfl, by rw [← hit]⟩
        rintro v _ _ ⟨rfl, rfl, hv⟩
        cases hg : walkR s k y with
        | error e => rw [hg] at hv; cases hv
        | ok z =>
          rw [hg] at hv hit
          simp only [Ending.returned.injEq] at hv
          subst hv
          have hzz := walkR_len s k y z hy hg
          repeat (first | with_reducible (first | refine zS ?_ | refine zR ?_ | refine zN ?_ | refine zK ?_ | refine zB ?_ | refine zI ?_) | refine zE rfl ?_ | refine wq ?_ | refine wg ?_ | refine ws ?_ | refine wb fun _ => ?_ | refine wa fun _ => ?_ | refine wl fun _ => ?_)
          exact run_sub' (hnext _ _ _ ⟨hik, z, hzz, hit, rfl, rfl, rfl⟩) ⟨rfl, rfl, rfl, rfl, rfl, rfl, lk_succ rfl (by omega), trivial⟩
      · have hik : i = x.2 := by simp at h5; omega
        subst hik
        rw [Nat.sub_self, iter] at hit
        repeat (first | with_reducible (first | refine zS ?_ | refine zR ?_ | refine zN ?_ | refine zK ?_ | refine zB ?_ | refine zI ?_) | refine zE rfl ?_ | refine wq ?_ | refine wg ?_ | refine ws ?_ | refine wb fun _ => ?_ | refine wa fun _ => ?_ | refine wl fun _ => ?_ | (refine runL_op (st_callV rfl rfl (fun _ => tell_ok _ _ _ _ _)) rfl rfl rfl ?_; rintro _ _ _ ⟨rfl, rfl, rfl⟩))
        refine run_retX hro ?_
        exact runX_ret hC (rs := [.tmp 8]) rfl (resT rfl resN) (fun _ h => h) ⟨rfl, rfl, by rw [← hit]; rfl⟩
/-- whether a text is a term, or why not -/
def checkR (s : ByteArray) : Int := if (readR (walkR s 16 0)).2 = 0 ∧ (readR (walkR s 16 0)).1 ≠ (s.size : Int) then 7 else (readR (walkR s 16 0)).2
theorem check_ok (M : Mem) (L : HL) (s : ByteArray) (hs : s.size < 4611686018427387904) : TrQ Tryz.prog 118 [.string s] M L (.int .i64 (checkR s)) := by
  refine Tr.intro 19 Tryz.func118 rfl rfl Tryz.call118 rfl ?_
  intro C hC hro
  repeat (first | with_reducible (first | refine zS ?_ | refine zR ?_ | refine zN ?_ | refine zK ?_ | refine zB ?_ | refine zI ?_) | refine zE rfl ?_ | refine wq ?_ | refine wg ?_ | refine ws ?_ | refine wb fun _ => ?_ | refine wa fun _ => ?_ | refine wl fun _ => ?_ | refine runL_q (qt_callF rfl (fun _ => read_ok _ _ s (walkR s 16 0) (fun L => walk_ok _ s hs 16 (by omega) L 0 (Nat.zero_le _)))) rfl rfl rfl ?_)
  refine run_cond rfl (fun h => ?_) (fun h => ?_)
  · have h1 : (readR (walkR s 16 0)).2 = 0 ∧ (readR (walkR s 16 0)).1 ≠ (s.size : Int) := by simpa using h
    repeat (first | with_reducible (first | refine zS ?_ | refine zR ?_ | refine zN ?_ | refine zK ?_ | refine zB ?_ | refine zI ?_) | refine zE rfl ?_ | refine wq ?_ | refine wg ?_ | refine ws ?_ | refine wb fun _ => ?_ | refine wa fun _ => ?_ | refine wl fun _ => ?_)
    exact run_ret hC (rs := [.tmp 2]) rfl (resT rfl resN) (fun _ h => h) ⟨by rw [checkR, if_pos h1]; rfl, rfl, rfl⟩
  · have h1 : ¬ ((readR (walkR s 16 0)).2 = 0 ∧ (readR (walkR s 16 0)).1 ≠ (s.size : Int)) := by simpa using h
    repeat (first | with_reducible (first | refine zS ?_ | refine zR ?_ | refine zN ?_ | refine zK ?_ | refine zB ?_ | refine zI ?_) | refine zE rfl ?_ | refine wq ?_ | refine wg ?_ | refine ws ?_ | refine wb fun _ => ?_ | refine wa fun _ => ?_ | refine wl fun _ => ?_)
    exact run_ret hC (rs := [.tmp 2]) rfl (resT rfl resN) (fun _ h => h) ⟨by rw [checkR, if_neg h1]; rfl, rfl, rfl⟩
end Go.Proofs.YtkjljcgbnikmkaaGreatDoor
namespace Go.Chi
section
variable {κ : Type} [DecidableEq κ]
/-- a key that is there, or is made there -/
def kvTouch (es : KV κ) (a : κ) (z : Value) (clock : Nat) : KV κ := match es with
  | [] => [(a, z, clock)]
  | x :: es => if a = x.1 then x :: es else x :: kvTouch es a z clock
def kvBorn (es : KV κ) (a : κ) (clock : Nat) : Nat := match es with
  | [] => clock
  | x :: es => if a = x.1 then x.2.2 else kvBorn es a clock
structure KvOk (es : KV κ) (clock : Nat) : Prop where
  nodup : (es.map (·.2.2)).Nodup
  lt : ∀ x ∈ es, x.2.2 < clock
omit [DecidableEq κ] in
theorem KvOk.nil (clock : Nat) : KvOk ([] : KV κ) clock := ⟨by simp, fun x h => by cases h⟩
theorem kvGet_set (a : κ) (v : Value) (clock : Nat) (b : κ) : ∀ es : KV κ, kvGet (kvSet es a v clock) b = if b = a then some v else kvGet es b
  | [] => by simp only [kvSet, kvGet]
  | x :: es => by
    simp only [kvSet]
    split
    · rename_i e
      subst e
      simp only [kvGet]
      split
      · rfl
      · rfl
    · rename_i e
      simp only [kvGet, kvGet_set a v clock b es]
      by_cases e2 : b = x.1
      · rw [if_pos e2, if_pos e2, if_neg (fun h => e (by rw [← h]; exact e2))]
      · rw [if_neg e2, if_neg e2]
theorem kvGet_touch (a : κ) (z : Value) (clock : Nat) : ∀ es : KV κ, (kvGet (kvTouch es a z clock) a).getD z = (kvGet es a).getD z
  | [] => by simp [kvTouch, kvGet]
  | x :: es => by
    simp only [kvTouch]
    split
    · rfl
    · rename_i e
      simp only [kvGet, if_neg e]
      exact kvGet_touch a z clock es
theorem kvBorn_mem (a : κ) (clock : Nat) : ∀ es : KV κ, kvBorn es a clock = clock ∨ kvBorn es a clock ∈ es.map (·.2.2)
  | [] => .inl rfl
  | x :: es => by
    simp only [kvBorn]
    split
    · exact .inr (by simp)
    · rcases kvBorn_mem a clock es with h | h
      · exact .inl h
      · exact .inr (by rw [List.map_cons]; exact List.mem_cons_of_mem _ h)
theorem touch_set {enc : κ → Value} (a : κ) (z v : Value) (clock : Nat) : ∀ es : KV κ, KvOk es clock →
    ∃ i, (ents enc (kvTouch es a z clock)).findIdx? (fun e => (e.born : Int) == ((kvBorn es a clock : Nat) : Int)) = some i ∧ (ents enc (kvTouch es a z clock)).modify i (fun e => { e with val := v }) = ents enc (kvSet es a v clock)
  | [], _ => ⟨0, by simp [kvTouch, kvBorn, ents, List.findIdx?_cons], by simp [kvTouch, kvSet, ents]⟩
  | x :: es, h => by
    by_cases e : a = x.1
    · refine ⟨0, ?_, ?_⟩
      · simp only [kvTouch, kvBorn, if_pos e, ents, List.map_cons]
        simp [List.findIdx?_cons]
      · simp only [kvTouch, kvSet, if_pos e, ents, List.map_cons]
        simp
    · obtain ⟨i, h1, h2⟩ := touch_set (enc := enc) a z v clock es ⟨(List.nodup_cons.1 (by rw [← List.map_cons]; exact h.nodup)).2, fun y hy => h.lt y (List.mem_cons_of_mem _ hy)⟩
      have hne : x.2.2 ≠ kvBorn es a clock := by
        rcases kvBorn_mem a clock es with hb | hb
        · have := h.lt x List.mem_cons_self; omega
        · intro he
          rw [← he] at hb
          have hnd := h.nodup
          rw [List.map_cons] at hnd
          exact (List.nodup_cons.1 hnd).1 hb
      refine ⟨i + 1, ?_, ?_⟩
      · simp only [kvTouch, kvBorn, if_neg e, ents, List.map_cons]
        rw [List.findIdx?_cons]
        have hf : (((x.2.2 : Nat) : Int) == ((kvBorn es a clock : Nat) : Int)) = false := by
          rw [beq_eq_false_iff_ne]; omega
        simp only [hf]
        simp only [ents] at h1
        rw [h1]; rfl
      · simp only [kvTouch, kvSet, if_neg e, ents, List.map_cons]
        simp only [ents] at h2
        simp [h2]
theorem kvSet_births (a : κ) (v : Value) (clock : Nat) : ∀ es : KV κ, (kvSet es a v clock).map (·.2.2) = if (kvGet es a).isSome then es.map (·.2.2) else es.map (·.2.2) ++ [clock]
  | [] => by simp [kvSet, kvGet]
  | x :: es => by
    simp only [kvSet, kvGet]
    split
    · simp
    · rw [List.map_cons, kvSet_births a v clock es]
      split <;> simp
theorem KvOk.set {es : KV κ} {clock : Nat} (h : KvOk es clock) (a : κ) (v : Value) : KvOk (kvSet es a v clock) (if (kvGet es a).isSome then clock else clock + 1) := by
  have hb := kvSet_births a v clock es
  constructor
  · rw [hb]
    split
    · exact h.nodup
    · rw [List.nodup_append]
      refine ⟨h.nodup, by simp, fun x hx y hy e => ?_⟩
      obtain ⟨z, hz, rfl⟩ := List.mem_map.1 hx
      have := h.lt z hz
      simp at hy
      omega
  · intro x hx
    have hm : x.2.2 ∈ (kvSet es a v clock).map (·.2.2) := List.mem_map_of_mem (f := fun x : κ × Value × Nat => x.2.2) hx
    rw [hb] at hm
    split at hm
    · rename_i hs
      rw [if_pos hs]
      obtain ⟨z, hz, e⟩ := List.mem_map.1 hm
      have := h.lt z hz
      omega
    · rename_i hs
      rw [if_neg hs]
      rcases List.mem_append.1 hm with hm | hm
      · obtain ⟨z, hz, e⟩ := List.mem_map.1 hm
        have := h.lt z hz
        omega
      · simp at hm; omega
theorem touch_of (a : κ) (z : Value) (clock : Nat) : ∀ es : KV κ, kvTouch es a z clock = if (kvGet es a).isSome then es else es ++ [(a, z, clock)]
  | [] => by simp [kvTouch, kvGet]
  | x :: es => by
    simp only [kvTouch, kvGet]
    split
    · simp
    · rw [touch_of a z clock es]
      split <;> simp
theorem born_of (a : κ) (clock : Nat) : ∀ (es : KV κ) (i : Nat),
    (∀ j u, fnd a es i = some (j, u) → i ≤ j ∧ ∃ x, es[j - i]? = some x ∧ x.1 = a ∧ x.2.1 = u ∧ x.2.2 = kvBorn es a clock) ∧ (fnd a es i = none → kvBorn es a clock = clock)
  | [], i => ⟨fun j u h => by simp [fnd] at h, fun _ => rfl⟩
  | x :: es, i => by
    obtain ⟨ih1, ih2⟩ := born_of a clock es (i + 1)
    constructor
    · intro j u h
      simp only [fnd] at h
      split at h
      · rename_i e
        cases h
        exact ⟨Nat.le_refl _, x, by simp, e.symm, rfl, by simp [kvBorn, e]⟩
      · rename_i e
        obtain ⟨h1, y, h2, h3⟩ := ih1 j u h
        refine ⟨by omega, y, ?_, by simpa only [kvBorn, if_neg e] using h3⟩
        rw [show j - i = (j - (i + 1)) + 1 from by omega]; simpa using h2
    · intro h
      simp only [fnd] at h
      split at h
      · cases h
      · rename_i e
        simp only [kvBorn, if_neg e, ih2 h]
variable {P : Program} {kt : TypeId} {enc : κ → Value} {T : TT} {ro : Option Nat} {σ : Env} {δ : Den} {cur : Path} {M : Mem} {L : HL} {d : Option Nat} {op : Op} {ty : TypeId} {pos : String} {aft : Array Edge} {g : Option (Nat × Bool)} {v : Value}
theorem st_mapEntry (hT : TOk P T) (hk : KeyLaw P kt enc) {t : TypeId} {x y : Operand} {b : Nat} {et : TypeId} {kv z : Value} {a : κ} {es : KV κ} {clock : Nat} {L' : HL}
    (hu : und T t = some (.map kt et)) (hx : ev σ δ cur x = some (.map (some b))) (hy : ev σ δ cur y = some kv) (he : kv = enc a) (hz : zeroT T et = some z)
    (hL : Upd L b (.map ⟨ents enc es⟩ clock) (.map ⟨ents enc (kvTouch es a z clock)⟩ (if (kvGet es a).isSome then clock else clock + 1)) L') :
    St P ro ⟨d, .mapEntry t x y, ty, pos, aft, g⟩ σ δ cur M L (fun v' M' L'' => v' = .tuple ⟨[(kvGet es a).getD z, .int .i64 ((kvBorn es a clock : Nat) : Int)]⟩ ∧ M = M' ∧ L'' = L') := fun act w hs hcur hp => by
  have hb' := hp.own _ hL.mem
  subst he
  refine opWp_value (v := .tuple ⟨[(kvGet es a).getD z, .int .i64 ((kvBorn es a clock : Nat) : Int)]⟩) (w' := w.putObj b (.map ⟨ents enc (kvTouch es a z clock)⟩ (if (kvGet es a).isSome then clock else clock + 1))) ?_ ⟨M, L', hp.putObj hL, rfl, rfl, rfl⟩
  rw [semAt_of (by intro c e; cases e)]
  have hget : (getObj b).run P w = .ok (.map ⟨ents enc es⟩ clock) w := by simp [getObj, Sem.run, hb']
  have hset : ∀ o, (setObj b o).run P w = .ok () (w.putObj b o) := fun o => by simp [setObj, Sem.run, hb', World.putObj]
  have hzv : (zeroValue et).run P w = .ok z w := run_zeroT hT hz w
  simp only [execOp, Instr.mapEntry, ev_sound hs hcur hx, ev_sound hs hcur hy, Sem.run_bind, run_und hT hu, Result.andThen_ok, hget, hk.chk, findKey_ok hk]
  have hg := fnd_get a es 0
  obtain ⟨h1, h2⟩ := born_of a clock es 0
  cases h : fnd a es 0 with
  | none =>
    rw [h] at hg
    simp only [hzv, hset, Result.andThen_ok, Sem.run_pure, Sem.run_bind]
    rw [touch_of, ← hg, h2 h]
    simp [ents, goInt]
  | some r =>
    obtain ⟨j, u⟩ := r
    obtain ⟨_, y, h3, h4, h5, h6⟩ := h1 j u h
    simp only [Nat.sub_zero] at h3
    rw [h] at hg
    have hkey : (((⟨ents enc es⟩ : Array MapEntry)[j]?).map (·.key)).getD (enc a) = enc a := by simp [ents, h3, h4]
    have hborn : (((⟨ents enc es⟩ : Array MapEntry)[j]?).map (·.born)).getD 0 = kvBorn es a clock := by simp [ents, h3, h6]
    have hmod : (⟨ents enc es⟩ : Array MapEntry).modify j (fun e => { e with key := enc a }) = ⟨ents enc es⟩ := by
      apply Array.ext'
      simp only [Array.toList_modify, ents]
      apply List.ext_getElem?
      intro n
      simp only [List.getElem?_modify, List.getElem?_map]
      cases hn : es[n]? with
      | none => simp
      | some y' =>
        simp only [Option.map_some]
        by_cases e : j = n
        · subst e; rw [h3] at hn; cases hn; simp [h4]
        · simp [e]
    simp only [hkey, hmod, Sem.run_bind, Instr.keyThatStays, hk.bits, if_true, Sem.run_pure, Result.andThen_ok, hset]
    rw [touch_of, ← hg]
    simp [goInt, ents, h3, h6]
theorem st_entryStore {t : TypeId} {x s q : Operand} {b c1 : Nat} {z : Value} {a : κ} {es : KV κ} {clock : Nat} {L' : HL} (hok : KvOk es clock)
    (hx : ev σ δ cur x = some (.map (some b))) (hs' : ev σ δ cur s = some (.int .i64 ((kvBorn es a clock : Nat) : Int))) (hq : ev σ δ cur q = some v)
    (hL : Upd L b (.map ⟨ents enc (kvTouch es a z clock)⟩ c1) (.map ⟨ents enc (kvSet es a v clock)⟩ c1) L') :
    St P ro ⟨d, .entryStore t x s q, ty, pos, aft, g⟩ σ δ cur M L (fun v' M' L'' => v' = undef ∧ M = M' ∧ L'' = L') := fun act w hs hcur hp => by
  have hb' := hp.own _ hL.mem
  refine opWp_skip (w' := w.putObj b (.map ⟨ents enc (kvSet es a v clock)⟩ c1)) ?_ ⟨M, L', hp.putObj hL, rfl, rfl, rfl⟩
  rw [semAt_of (by intro c e; cases e)]
  have hget : (getObj b).run P w = .ok (.map ⟨ents enc (kvTouch es a z clock)⟩ c1) w := by simp [getObj, Sem.run, hb']
  have hset : ∀ o, (setObj b o).run P w = .ok () (w.putObj b o) := fun o => by simp [setObj, Sem.run, hb', World.putObj]
  obtain ⟨i, h1, h2⟩ := touch_set (enc := enc) a z v clock es hok
  have h1' : (⟨ents enc (kvTouch es a z clock)⟩ : Array MapEntry).findIdx? (fun e => (e.born : Int) == ((kvBorn es a clock : Nat) : Int)) = some i := by
    rw [← h1]; exact List.findIdx?_toArray _ _
  have h2' : (⟨ents enc (kvTouch es a z clock)⟩ : Array MapEntry).modify i (fun e => { e with val := v }) = ⟨ents enc (kvSet es a v clock)⟩ := by
    apply Array.ext'
    simp only [Array.toList_modify]
    exact h2
  simp only [execOp, Instr.entryStore, ev_sound hs hcur hx, ev_sound hs hcur hs', ev_sound hs hcur hq, Sem.run_bind, Result.andThen_ok, hget, asInt, asIntOf, Sem.run_pure, h1', h2', hset]
end
end Go.Chi
namespace Go.Chi
/-- bytes, as a text -/
def bytesI (ns : List Int) : ByteArray := ns.foldl (fun r n => r.push (UInt8.ofNat n.toNat)) ByteArray.empty
section
variable {P : Program} {T : TT} {ro : Option Nat} {σ : Env} {δ : Den} {cur : Path} {M : Mem} {L : HL} {d : Option Nat} {ty : TypeId} {pos : String} {aft : Array Edge} {g : Option (Nat × Bool)} {v : Value}
theorem _root_.Go.Chi.Qt.as {o : Oper} {v' : Value} (h : Qt P ro o σ δ cur M L v) (e : v = v') : Qt P ro o σ δ cur M L v' := e ▸ h
theorem qt_bytesStr (hT : TOk P T) {s t e : TypeId} {x : Operand} {b n c : Nat} (ns : List Int) (hs' : und T s = some (.slice e)) (he : und T e = some (.int .u8)) (hu : und T t = some .string) (hx : ev σ δ cur x = some (.slice (some ⟨b, 0, none⟩) n c)) (hc : Cells M L b 0 (ns.map (Value.int .u8))) (hl : ns.length = n) :
    Qt P ro ⟨d, .convert s t x, ty, pos, aft, g⟩ σ δ cur M L (.string (bytesI ns)) :=
  qt_of_run (semAt_of (by intro c e; cases e)) fun a w hs hcur hp => by
    have h1 := run_loadCells (P := P) hp (ns.map (Value.int .u8)) [] (by simpa using hc)
    have h2 : (loadCells ⟨b, 0, none⟩ n).run P w = .ok (ns.map (Value.int .u8)).toArray w := by
      simp only [List.length_nil, List.nil_append, List.length_map, hl] at h1
      exact h1
    have h3 := run_bytesToString w ⟨b, 0, none⟩ n c ns h2
    have h4 := run_convert_bytes_string (P := P) w s t e (some ⟨b, 0, none⟩) n c (und_ok hT hs') (und_ok hT he) (und_ok hT hu)
    simp only [execOp, ev_sound hs hcur hx, Sem.run_bind, h4, h3, Result.andThen_ok, Sem.run_pure]
    rfl
theorem qt_concat {t u : TypeId} {x y : Operand} {a b : ByteArray} (hx : ev σ δ cur x = some (.string a)) (hy : ev σ δ cur y = some (.string b)) (hsz : a.size + b.size < 4611686018427387904) :
    Qt P ro ⟨d, .binOp .add t x y u, ty, pos, aft, g⟩ σ δ cur M L (.string (a ++ b)) :=
  qt_of_run (semAt_of (by intro c e; cases e)) fun act w hs hcur hp => by
    have hn : ¬ ((a.size + b.size : Nat) : Int) > IntKind.i64.max := by
      have : IntKind.i64.max = 9223372036854775807 := by decide
      omega
    simp only [execOp, eqGuard, binOp, ev_sound hs hcur hx, ev_sound hs hcur hy, Op.stringOp, hn, if_false]
    simp
end
end Go.Chi
namespace Go.Proofs.YtkjljcgbnikmkaaGreatDoor
open Go.Chi
set_option maxRecDepth 10000

/-! ### the document's numbers -/
theorem u8_nat {n : Nat} (h : n < 256) : IntKind.u8.wrap (n : Int) = n := by
  simp only [IntKind.wrap, IntKind.signed, IntKind.bits]
  simp
  omega
theorem bytesI_one (x : Int) : (bytesI [x]).size = 1 := rfl
theorem app_size (a b : ByteArray) : (a ++ b).size = a.size + b.size := ByteArray.size_append
def digN (v : Nat) : ByteArray := if v = 0 then ⟨#[]⟩ else digN (v / 256) ++ bytesI [((v % 256 : Nat) : Int)]
termination_by v
decreasing_by omega
theorem digN_zero : digN 0 = ⟨#[]⟩ := by rw [digN, if_pos rfl]
theorem digN_size : ∀ (k v : Nat), v < 256 ^ k → (digN v).size ≤ k
  | 0, v, h => by
    have : v = 0 := by simp at h; omega
    subst this
    rw [digN_zero]; exact Nat.le_refl _
  | k + 1, v, h => by
    by_cases h0 : v = 0
    · subst h0; rw [digN_zero]; exact Nat.zero_le _
    · rw [digN, if_neg h0, app_size, bytesI_one]
      have := digN_size k (v / 256) (by rw [Nat.pow_succ] at h; omega)
      omega
theorem digN_len {v : Nat} (h : v < 18446744073709551616) : (digN v).size ≤ 8 := digN_size 8 v (by simpa using h)
theorem digN_first : ∀ v : Nat, v ≠ 0 → ∃ b : UInt8, (digN v)[0]? = some b ∧ b ≠ 0 := by
  intro v
  induction v using Nat.strongRecOn with
  | _ v ih =>
    intro h0
    rw [digN, if_neg h0]
    by_cases h1 : v / 256 = 0
    · rw [h1, digN_zero]
      have hv : v % 256 = v := by omega
      rw [hv]
      refine ⟨UInt8.ofNat v, by simp [bytesI]; rfl, fun e => ?_⟩
      have := congrArg UInt8.toNat e
      simp at this
      omega
    · obtain ⟨b, hb, hb0⟩ := ih (v / 256) (by omega) h1
      refine ⟨b, ?_, hb0⟩
      have hlt : 0 < (digN (v / 256)).size := by
        apply Classical.byContradiction
        intro hn
        rw [getElem?_neg (digN (v / 256)) 0 hn] at hb
        cases hb
      rw [getElem?_pos (digN (v / 256)) 0 hlt] at hb
      rw [getElem?_pos (digN (v / 256) ++ bytesI [((v % 256 : Nat) : Int)]) 0 (by rw [app_size]; omega), ByteArray.getElem_append_left hlt]
      exact hb
set_option maxRecDepth 10000 in
set_option maxHeartbeats 4000000 in
theorem digits_ok (M : Mem) : ∀ v : Nat, v < 18446744073709551616 → ∀ L : HL, TrQ Tryz.prog 126 [.int .u64 (v : Int)] M L (.string (digN v)) := by
  intro v
  induction v using Nat.strongRecOn with
  | _ v ih =>
    intro hv L
    refine Tr.intro 14 Tryz.func126 rfl rfl Tryz.call126 rfl ?_
    intro C hC hro
    repeat (first | with_reducible (first | refine zS ?_ | refine zR ?_ | refine zN ?_ | refine zK ?_ | refine zB ?_ | refine zI ?_) | refine zE rfl ?_ | refine wq ?_ | refine wg ?_ | refine ws ?_ | refine wb fun _ => ?_ | refine wa fun _ => ?_ | refine wl fun _ => ?_)
    refine run_cond rfl (fun h => ?_) (fun h => ?_)
    · have h0 : v = 0 := by simp at h; omega
      subst h0
      repeat (first | with_reducible (first | refine zS ?_ | refine zR ?_ | refine zN ?_ | refine zK ?_ | refine zB ?_ | refine zI ?_) | refine zE rfl ?_ | refine wq ?_ | refine wg ?_ | refine ws ?_ | refine wb fun _ => ?_ | refine wa fun _ => ?_ | refine wl fun _ => ?_)
      exact run_ret hC (rs := [.tmp 2]) rfl (resT rfl resN) (fun _ h => h) ⟨by rw [digN_zero]; rfl, rfl, rfl⟩
    have h0 : v ≠ 0 := by simp at h; omega
    have hlen := digN_len (v := v / 256) (by omega)
    refine run_skip ?_
    refine run_seq ?_
    refine prn_start mixed ?_
    iterate 1 (first | refine dq ?_ | refine dgK ?_ | refine prn_gF rfl rfl rfl (by decide +kernel) rfl rfl rfl ?_ | refine dg ?_ | (refine prn_e0 rfl (sst tok rfl rfl rfl rfl rfl) (by decide +kernel) ?_; rintro _ _ _ ⟨rfl, rfl, rfl⟩) | ((first | refine pe rfl (st_box rfl) ?_ | refine pe rfl (st_alloc tok rfl) ?_ | refine pe rfl (st_buildSlice tok rfl rfl rfl rfl rfl rfl rfl) ?_); rintro _ _ _ ⟨_, rfl, rfl, rfl⟩) | (refine prn_o0 rfl (sst tok rfl rfl rfl rfl rfl) (by decide +kernel) ?_; rintro _ _ _ ⟨rfl, rfl, rfl⟩; refine ⟨by (repeat (first | exact trivial | refine And.intro (pend_q rfl rfl rfl (qt_pev tok rfl)) ?_ | refine And.intro (pend_q rfl rfl rfl (ql tok rfl)) ?_)), ?_⟩) | ((first | refine po rfl (st_box rfl) ?_ | refine po rfl (st_alloc tok rfl) ?_ | refine po rfl (st_buildSlice tok rfl rfl rfl rfl rfl rfl rfl) ?_); rintro _ _ _ ⟨_, rfl, rfl, rfl⟩; refine ⟨by (repeat (first | exact trivial | refine And.intro (pend_q rfl rfl rfl (qt_pev tok rfl)) ?_ | refine And.intro (pend_q rfl rfl rfl (ql tok rfl)) ?_)), ?_⟩) | (refine pe rfl (qt_pev tok rfl) ?_; rintro _ _ _ ⟨rfl, rfl, rfl⟩))
    have e6 : Value.int .u64 (IntKind.u64.wrap ((v : Int).tdiv 256)) = .int .u64 ((v / 256 : Nat) : Int) := by rw [Int.tdiv_eq_ediv_of_nonneg (by omega), show (v : Int) / 256 = ((v / 256 : Nat) : Int) by omega, u64_nat (by omega)]
    have hd : digN v = digN (v / 256) ++ bytesI [((v % 256 : Nat) : Int)] := by rw [digN, if_neg h0]
    refine prn_q rfl ((qt_quo rfl rfl (fun _ => by decide)).as e6) (by decide +kernel) rfl rfl rfl ?_
    refine prn_q rfl (qt_callF rfl (fun _ => ih (v / 256) (by omega) (by omega) _)) (by decide +kernel) rfl rfl rfl ?_
    iterate 1 (first | refine dq ?_ | refine dgK ?_ | refine prn_gF rfl rfl rfl (by decide +kernel) rfl rfl rfl ?_ | refine dg ?_ | (refine prn_e0 rfl (sst tok rfl rfl rfl rfl rfl) (by decide +kernel) ?_; rintro _ _ _ ⟨rfl, rfl, rfl⟩) | ((first | refine pe rfl (st_box rfl) ?_ | refine pe rfl (st_alloc tok rfl) ?_ | refine pe rfl (st_buildSlice tok rfl rfl rfl rfl rfl rfl rfl) ?_); rintro _ _ _ ⟨_, rfl, rfl, rfl⟩) | (refine prn_o0 rfl (sst tok rfl rfl rfl rfl rfl) (by decide +kernel) ?_; rintro _ _ _ ⟨rfl, rfl, rfl⟩; refine ⟨by (repeat (first | exact trivial | refine And.intro (pend_q rfl rfl rfl (qt_pev tok rfl)) ?_ | refine And.intro (pend_q rfl rfl rfl (ql tok rfl)) ?_)), ?_⟩) | ((first | refine po rfl (st_box rfl) ?_ | refine po rfl (st_alloc tok rfl) ?_ | refine po rfl (st_buildSlice tok rfl rfl rfl rfl rfl rfl rfl) ?_); rintro _ _ _ ⟨_, rfl, rfl, rfl⟩; refine ⟨by (repeat (first | exact trivial | refine And.intro (pend_q rfl rfl rfl (qt_pev tok rfl)) ?_ | refine And.intro (pend_q rfl rfl rfl (ql tok rfl)) ?_)), ?_⟩) | (refine pe rfl (qt_pev tok rfl) ?_; rintro _ _ _ ⟨rfl, rfl, rfl⟩))
    refine prn_q rfl (qt_rem rfl rfl (fun _ => by decide)) (by decide +kernel) rfl rfl rfl ?_
    refine pr_as 9 (.int .u64 ((v % 256 : Nat) : Int)) rfl (by rw [Int.tmod_eq_emod_of_nonneg (by omega)]; first | rfl | (congr 1; omega)) ?_
    iterate 1 (first | refine dq ?_ | refine dgK ?_ | refine prn_gF rfl rfl rfl (by decide +kernel) rfl rfl rfl ?_ | refine dg ?_ | (refine prn_e0 rfl (sst tok rfl rfl rfl rfl rfl) (by decide +kernel) ?_; rintro _ _ _ ⟨rfl, rfl, rfl⟩) | ((first | refine pe rfl (st_box rfl) ?_ | refine pe rfl (st_alloc tok rfl) ?_ | refine pe rfl (st_buildSlice tok rfl rfl rfl rfl rfl rfl rfl) ?_); rintro _ _ _ ⟨_, rfl, rfl, rfl⟩) | (refine prn_o0 rfl (sst tok rfl rfl rfl rfl rfl) (by decide +kernel) ?_; rintro _ _ _ ⟨rfl, rfl, rfl⟩; refine ⟨by (repeat (first | exact trivial | refine And.intro (pend_q rfl rfl rfl (qt_pev tok rfl)) ?_ | refine And.intro (pend_q rfl rfl rfl (ql tok rfl)) ?_)), ?_⟩) | ((first | refine po rfl (st_box rfl) ?_ | refine po rfl (st_alloc tok rfl) ?_ | refine po rfl (st_buildSlice tok rfl rfl rfl rfl rfl rfl rfl) ?_); rintro _ _ _ ⟨_, rfl, rfl, rfl⟩; refine ⟨by (repeat (first | exact trivial | refine And.intro (pend_q rfl rfl rfl (qt_pev tok rfl)) ?_ | refine And.intro (pend_q rfl rfl rfl (ql tok rfl)) ?_)), ?_⟩) | (refine pe rfl (qt_pev tok rfl) ?_; rintro _ _ _ ⟨rfl, rfl, rfl⟩))
    refine pr_as 10 (.int .u8 ((v % 256 : Nat) : Int)) rfl (by rw [u8_nat (by omega)]) ?_
    refine prn_o1 rfl (st_buildSlice tok rfl rfl rfl rfl rfl rfl rfl) (by decide +kernel) rfl rfl rfl ?_
    rintro _ _ _ ⟨bs, rfl, rfl, rfl⟩
    refine ⟨by (repeat (first | exact trivial | refine And.intro (pend_q rfl rfl rfl (qt_pev tok rfl)) ?_ | refine And.intro (pend_q rfl rfl rfl (ql tok rfl)) ?_ | refine And.intro (pend_q rfl rfl rfl ((qt_quo rfl rfl (fun _ => by decide)).as e6)) ?_ | refine And.intro (pend_q rfl rfl rfl (qt_callF rfl (fun _ => ih (v / 256) (by omega) (by omega) _))) ?_)), ?_⟩
    refine prn_q rfl (qt_bytesStr tok [((v % 256 : Nat) : Int)] rfl rfl rfl rfl (cellsAll List.mem_cons_self) rfl) (by decide +kernel) rfl rfl rfl ?_
    refine prn_q rfl (qt_concat rfl rfl (by rw [bytesI_one]; omega)) (by decide +kernel) rfl rfl rfl ?_
    repeat (first | with_reducible (first | refine zS ?_ | refine zR ?_ | refine zN ?_ | refine zK ?_ | refine zB ?_ | refine zI ?_) | refine zE rfl ?_ | refine wq ?_ | refine wg ?_ | refine ws ?_ | refine wb fun _ => ?_ | refine wa fun _ => ?_ | refine wl fun _ => ?_ | refine prn_start mixed ?_ | refine prn_end (by decide +kernel) ?_ | refine dq ?_ | refine dg ?_ | (refine prn_e0 rfl (sst tok rfl rfl rfl rfl rfl) (by decide +kernel) ?_; rintro _ _ _ ⟨rfl, rfl, rfl⟩) | ((first | refine pe rfl (st_box rfl) ?_ | refine pe rfl (st_alloc tok rfl) ?_ | refine pe rfl (st_buildSlice tok rfl rfl rfl rfl rfl rfl rfl) ?_); rintro _ _ _ ⟨_, rfl, rfl, rfl⟩) | (refine prn_o0 rfl (sst tok rfl rfl rfl rfl rfl) (by decide +kernel) ?_; rintro _ _ _ ⟨rfl, rfl, rfl⟩; refine ⟨by (repeat (first | exact trivial | refine And.intro (pend_q rfl rfl rfl (qt_pev tok rfl)) ?_ | refine And.intro (pend_q rfl rfl rfl (ql tok rfl)) ?_)), ?_⟩) | ((first | refine po rfl (st_box rfl) ?_ | refine po rfl (st_alloc tok rfl) ?_ | refine po rfl (st_buildSlice tok rfl rfl rfl rfl rfl rfl rfl) ?_); rintro _ _ _ ⟨_, rfl, rfl, rfl⟩; refine ⟨by (repeat (first | exact trivial | refine And.intro (pend_q rfl rfl rfl (qt_pev tok rfl)) ?_ | refine And.intro (pend_q rfl rfl rfl (ql tok rfl)) ?_)), ?_⟩) | (refine pe rfl (qt_pev tok rfl) ?_; rintro _ _ _ ⟨rfl, rfl, rfl⟩))
    exact run_ret hC (rs := [.tmp 2]) rfl (resT rfl resN) (fun _ h => h.drop) ⟨by rw [hd]; rfl, rfl, rfl⟩
def numB (v : Nat) : ByteArray := if v < 248 then bytesI [IntKind.u8.wrap (v : Int)] else bytesI [IntKind.u8.wrap (IntKind.i64.wrap (247 + ((digN v).size : Int)))] ++ digN v
set_option maxRecDepth 10000 in
set_option maxHeartbeats 4000000 in
theorem num_ok (M : Mem) (L : HL) (v : Nat) (hv : v < 18446744073709551616) : TrQ Tryz.prog 113 [.int .u64 (v : Int)] M L (.string (numB v)) := by
  have hlen := digN_len hv
  refine Tr.intro 20 Tryz.func113 rfl rfl Tryz.call113 rfl ?_
  intro C hC hro
  repeat (first | with_reducible (first | refine zS ?_ | refine zR ?_ | refine zN ?_ | refine zK ?_ | refine zB ?_ | refine zI ?_) | refine zE rfl ?_ | refine wq ?_ | refine wg ?_ | refine ws ?_ | refine wb fun _ => ?_ | refine wa fun _ => ?_ | refine wl fun _ => ?_)
  refine run_cond rfl (fun h => ?_) (fun h => ?_)
  · have h0 : v < 248 := by simp at h; omega
    repeat (first | with_reducible (first | refine zS ?_ | refine zR ?_ | refine zN ?_ | refine zK ?_ | refine zB ?_ | refine zI ?_) | refine zE rfl ?_ | refine wq ?_ | refine wg ?_ | refine ws ?_ | refine wb fun _ => ?_ | refine wa fun _ => ?_ | refine wl fun _ => ?_ | refine runL_q (qt_bytesStr tok [IntKind.u8.wrap (v : Int)] rfl rfl rfl rfl (cellsAll List.mem_cons_self) rfl) rfl rfl rfl ?_)
    exact run_ret hC (rs := [.tmp 2]) rfl (resT rfl resN) (fun _ h => h.drop) ⟨by rw [numB, if_pos h0]; rfl, rfl, rfl⟩
  · have h0 : ¬ v < 248 := by simp at h; omega
    repeat (first | with_reducible (first | refine zS ?_ | refine zR ?_ | refine zN ?_ | refine zK ?_ | refine zB ?_ | refine zI ?_) | refine zE rfl ?_ | refine wq ?_ | refine wg ?_ | refine ws ?_ | refine wb fun _ => ?_ | refine wa fun _ => ?_ | refine wl fun _ => ?_ | refine runL_q (qt_callF rfl (fun _ => digits_ok _ v hv _)) rfl rfl rfl ?_ | refine runL_q (qt_bytesStr tok [IntKind.u8.wrap (IntKind.i64.wrap (247 + ((digN v).size : Int)))] rfl rfl rfl rfl (cellsAll List.mem_cons_self) rfl) rfl rfl rfl ?_ | refine runL_q (qt_concat rfl rfl (by rw [bytesI_one]; omega)) rfl rfl rfl ?_)
    exact run_ret hC (rs := [.tmp 2]) rfl (resT rfl resN) (fun _ h => h.drop) ⟨by rw [numB, if_neg h0]; rfl, rfl, rfl⟩
/-- what is put as more than a byte has no zero ahead -/
theorem numB_of {v n : Nat} {s : ByteArray} (h : numB v = s.extract 0 n) (hn : 2 ≤ n) (hs : n ≤ s.size) : 247 < v ∧ byte s 1 ≠ 0 := by
  have hsz := congrArg ByteArray.size h
  have hz : (s.extract 0 n).size = n := by simp; omega
  rw [hz] at hsz
  by_cases h0 : v < 248
  · rw [numB, if_pos h0, bytesI_one] at hsz
    omega
  · refine ⟨by omega, ?_⟩
    obtain ⟨b, hb, hb0⟩ := digN_first v (by omega)
    have hd : 0 < (digN v).size := by
      apply Classical.byContradiction
      intro hn
      rw [getElem?_neg (digN v) 0 hn] at hb
      cases hb
    rw [getElem?_pos (digN v) 0 hd, Option.some.injEq] at hb
    have h1 : (s.extract 0 n)[1]? = some b := by
      rw [← h, numB, if_neg h0, getElem?_pos (_ ++ digN v) 1 (by rw [app_size, bytesI_one]; omega), ByteArray.getElem_append_right (by rw [bytesI_one]; exact Nat.le_refl _)]
      simp only [bytesI_one, Nat.sub_self]
      rw [hb]
    have h2 : s[1]? = some b := by
      rw [getElem?_pos (s.extract 0 n) 1 (by omega)] at h1
      rw [getElem?_pos s 1 (by omega)]
      rw [← h1, ByteArray.getElem_extract]
    rw [byte, h2]
    intro e
    apply hb0
    have : b.toNat = 0 := by simpa using e
    exact UInt8.toNat_inj.1 this
end Go.Proofs.YtkjljcgbnikmkaaGreatDoor
namespace Go.Proofs.YtkjljcgbnikmkaaGreatDoor
open Go.Chi
set_option maxRecDepth 10000

/-! ### the document's reading of numbers and texts -/
def refV (s : ByteArray) : Nat → Int
  | 0 => 0
  | i + 1 => IntKind.u64.wrap (IntKind.u64.wrap (refV s i * 256) + IntKind.u64.wrap (byte s (i + 1)))
theorem u64_wrap (x : Int) : IntKind.u64.wrap x = x % 18446744073709551616 := by
  simp only [IntKind.wrap, IntKind.signed, IntKind.bits]
  simp
theorem or_add (x b : Int) (hb0 : 0 ≤ b) (hb : b < 256) : ior .u64 (ishl .u64 x 8) b = IntKind.u64.wrap (IntKind.u64.wrap (x * 256) + b) := by
  have e1 : ishl .u64 x 8 = IntKind.u64.wrap (x * 256) := by simp [ishl, IntKind.bits]
  rw [e1, u64_wrap (x * 256)]
  obtain ⟨q, hq⟩ : ∃ q : Nat, (x * 256) % 18446744073709551616 = ((2 ^ 8 * q : Nat) : Int) := ⟨(x % 72057594037927936).toNat, by omega⟩
  have hlt : (2 ^ 8 * q : Nat) < 18446744073709551616 := by omega
  obtain ⟨c, rfl⟩ : ∃ c : Nat, b = c := ⟨b.toNat, by omega⟩
  rw [hq, ior]
  congr 1
  have ho := Nat.two_pow_add_eq_or_of_lt (i := 8) (b := c) (by omega) q
  have h1 : (BitVec.ofInt 64 ((2 ^ 8 * q : Nat) : Int)).toNat = 2 ^ 8 * q := by
    rw [BitVec.toNat_ofInt]; omega
  have h2 : (BitVec.ofInt 64 (c : Int)).toNat = c := by
    rw [BitVec.toNat_ofInt]; omega
  show (((BitVec.ofInt 64 ((2 ^ 8 * q : Nat) : Int) ||| BitVec.ofInt 64 (c : Int)).toNat : Nat) : Int) = _
  rw [BitVec.toNat_or, h1, h2, ← ho]
  omega
theorem byte_rest (s : ByteArray) (i : Nat) : byte (rest1 s) i = byte s (i + 1) := by
  unfold byte rest1
  by_cases h : i + 1 < s.size
  · rw [getElem?_pos s _ h, getElem?_pos _ _ (by simp; omega), ByteArray.getElem_extract]
    simp [Nat.add_comm]
  · rw [getElem?_neg s _ h, getElem?_neg _ _ (by simp; omega)]
theorem refV_eq (s : ByteArray) : ∀ i, refV s i = numV (rest1 s) i
  | 0 => rfl
  | i + 1 => by
    have hb := byte_pos s (i + 1)
    have hw : IntKind.u64.wrap (byte s (i + 1)) = byte s (i + 1) := by rw [u64_wrap]; omega
    rw [refV, numV, byte_rest, hw, or_add _ _ hb.1 hb.2, refV_eq s i]
theorem refV_pos (s : ByteArray) (i : Nat) : 0 ≤ refV s i ∧ refV s i < 18446744073709551616 := by
  cases i with
  | zero => exact ⟨Int.le_refl _, show (0 : Int) < 18446744073709551616 by decide⟩
  | succ i => exact u64_pos .u64 rfl _
def refK (s : ByteArray) : Nat := (byte s 0 - 247).toNat
def refNum (s : ByteArray) : Int × Int × Int :=
  if s.size = 0 then (0, 0, 6) else
  if byte s 0 < 248 then (byte s 0, 1, 0) else
  if s.size < refK s + 1 then (0, 0, 6) else
  if numB (refV s (refK s)).toNat ≠ s.extract 0 (refK s + 1) then (0, 0, 7) else (refV s (refK s), ((refK s + 1 : Nat) : Int), 0)
theorem refNum_imp {s : ByteArray} (h : (refNum s).2.2 = 0) : numR s = refNum s := by
  have hb := byte_pos s 0
  unfold refNum at h ⊢
  split at h
  · cases h
  rename_i h0
  rw [if_neg h0]
  split at h
  · rename_i h1
    rw [numR, if_neg h0, if_pos (by omega), if_pos h1]
  rename_i h1
  rw [if_neg h1]
  split at h
  · cases h
  rename_i h2
  rw [if_neg h2]
  split at h
  · cases h
  rename_i h3
  rw [if_neg h3]
  have h3' : numB (refV s (refK s)).toNat = s.extract 0 (refK s + 1) := by simpa using h3
  have hk : (refK s : Int) = byte s 0 - 247 := by unfold refK; omega
  obtain ⟨h4, h5⟩ := numB_of h3' (by omega) (by omega)
  have hr := rest1_size (s := s)
  rw [numR, if_neg h0, if_neg (by omega), if_neg (by omega)]
  have hv := refV_eq s (refK s)
  have hz : (byte s 0 - 247).toNat = refK s := rfl
  rw [hz, ← hv, if_neg (by
    rintro (h6 | h6)
    · rw [byte_rest] at h6; exact h5 h6
    · omega)]
  congr 2
  omega
set_option maxRecDepth 10000 in
set_option maxHeartbeats 8000000 in
theorem refNum_ok (M : Mem) (L : HL) (s : ByteArray) : TrQ Tryz.prog 124 [.string s] M L (.tuple ⟨[.int .u64 (refNum s).1, .int .i64 (refNum s).2.1, .int .i64 (refNum s).2.2]⟩) := by
  refine Tr.intro 45 Tryz.func124 rfl rfl Tryz.call124 rfl ?_
  intro C hC hro
  repeat (first | with_reducible (first | refine zS ?_ | refine zR ?_ | refine zN ?_ | refine zK ?_ | refine zB ?_ | refine zI ?_) | refine zE rfl ?_ | refine wq ?_ | refine wg ?_ | refine ws ?_ | refine wb fun _ => ?_ | refine wa fun _ => ?_ | refine wl fun _ => ?_)
  refine run_cond rfl (fun h => ?_) (fun h => ?_)
  · repeat (first | with_reducible (first | refine zS ?_ | refine zR ?_ | refine zN ?_ | refine zK ?_ | refine zB ?_ | refine zI ?_) | refine zE rfl ?_ | refine wq ?_ | refine wg ?_ | refine ws ?_ | refine wb fun _ => ?_ | refine wa fun _ => ?_ | refine wl fun _ => ?_)
    exact run_ret hC (rs := [.tmp 2, .tmp 3, .tmp 4]) rfl (resT rfl (resT rfl (resT rfl resN))) (fun _ h => h) ⟨by rw [empty_beq, decide_eq_true_eq] at h; rw [refNum, if_pos h]; rfl, rfl, rfl⟩
  rw [empty_beq, decide_eq_false_iff_not] at h
  have hs : 0 < s.size := by omega
  obtain ⟨b0, hb0, hb0'⟩ := byte_at hs
  repeat (first | with_reducible (first | refine zS ?_ | refine zR ?_ | refine zN ?_ | refine zK ?_ | refine zB ?_ | refine zI ?_) | refine zE rfl ?_ | refine wq ?_ | refine wg ?_ | refine ws ?_ | refine wb fun _ => ?_ | refine wa fun _ => ?_ | refine wl fun _ => ?_ | refine runL_q (qt_strIndex (n := 0) tok rfl rfl rfl (fun _ => hb0)) rfl rfl rfl ?_)
  refine run_cond rfl (fun h1 => ?_) (fun h1 => ?_)
  · have h2 : byte s 0 < 248 := by rw [hb0']; simpa using h1
    repeat (first | with_reducible (first | refine zS ?_ | refine zR ?_ | refine zN ?_ | refine zK ?_ | refine zB ?_ | refine zI ?_) | refine zE rfl ?_ | refine wq ?_ | refine wg ?_ | refine ws ?_ | refine wb fun _ => ?_ | refine wa fun _ => ?_ | refine wl fun _ => ?_ | refine runL_q (qt_strIndex (n := 0) tok rfl rfl rfl (fun _ => hb0)) rfl rfl rfl ?_)
    refine run_ret hC (rs := [.tmp 2, .tmp 3, .tmp 4]) rfl (resT rfl (resT rfl (resT rfl resN))) (fun _ h => h) ⟨?_, rfl, rfl⟩
    rw [refNum, if_neg h, if_pos h2, hb0', u64_byte]
    rfl
  have h2 : ¬ byte s 0 < 248 := by rw [hb0']; simpa using h1
  have hlt := b0.toNat_lt
  obtain ⟨k, hk⟩ : ∃ k : Nat, k = b0.toNat - 247 := ⟨_, rfl⟩
  have hk1 : refK s = k := by unfold refK; rw [hb0']; omega
  have hkv : IntKind.i64.wrap (IntKind.i64.wrap (1 + IntKind.i64.wrap (b0.toNat : Int)) - 247) = ((k + 1 : Nat) : Int) := by
    rw [wrap64_nat (by omega), show (1 : Int) + (b0.toNat : Int) = ((1 + b0.toNat : Nat) : Int) by omega, wrap64_nat (by omega), show ((1 + b0.toNat : Nat) : Int) - 247 = ((k + 1 : Nat) : Int) by omega, wrap64_nat (by omega)]
  repeat (first | with_reducible (first | refine zS ?_ | refine zR ?_ | refine zN ?_ | refine zK ?_ | refine zB ?_ | refine zI ?_) | refine zE rfl ?_ | refine wq ?_ | refine wg ?_ | refine ws ?_ | refine wb fun _ => ?_ | refine wa fun _ => ?_ | refine wl fun _ => ?_ | refine runL_q (qt_strIndex (n := 0) tok rfl rfl rfl (fun _ => hb0)) rfl rfl rfl ?_)
  refine run_cond rfl (fun h3 => ?_) (fun h3 => ?_)
  · rw [hkv] at h3
    have h4 : s.size < refK s + 1 := by rw [hk1]; simp at h3; omega
    repeat (first | with_reducible (first | refine zS ?_ | refine zR ?_ | refine zN ?_ | refine zK ?_ | refine zB ?_ | refine zI ?_) | refine zE rfl ?_ | refine wq ?_ | refine wg ?_ | refine ws ?_ | refine wb fun _ => ?_ | refine wa fun _ => ?_ | refine wl fun _ => ?_)
    refine run_ret hC (rs := [.tmp 2, .tmp 3, .tmp 4]) rfl (resT rfl (resT rfl (resT rfl resN))) (fun _ h => h) ⟨?_, rfl, rfl⟩
    rw [refNum, if_neg h, if_neg h2, if_pos h4]
    rfl
  rw [hkv] at h3
  have h4 : ¬ s.size < refK s + 1 := by rw [hk1]; simp at h3; omega
  rw [hk1] at h4
  refine run_as 5 (.int .i64 ((k + 1 : Nat) : Int)) rfl (by rw [hkv]) ?_
  repeat (first | with_reducible (first | refine zS ?_ | refine zR ?_ | refine zN ?_ | refine zK ?_ | refine zB ?_ | refine zI ?_) | refine zE rfl ?_ | refine wq ?_ | refine wg ?_ | refine ws ?_ | refine wb fun _ => ?_ | refine wa fun _ => ?_ | refine wl fun _ => ?_)
  refine run_loopN (fun i σ1 M1 L1 => i ≤ k ∧ σ1 = [(7, .int .i64 ((i + 1 : Nat) : Int)), (6, .int .u64 (refV s i)), (5, .int .i64 ((k + 1 : Nat) : Int)), (0, .string s)] ∧ M = M1 ∧ L = L1) k [(7, .int .i64 ((0 + 1 : Nat) : Int)), (6, .int .u64 0), (5, .int .i64 ((k + 1 : Nat) : Int)), (0, .string s)] ?_ ⟨Nat.zero_le _, rfl, rfl, rfl⟩ (fun j _ _ _ h => h.1) ?_
  · exact ⟨rfl, rfl, rfl, rfl, trivial⟩
  rintro i _ _ _ ⟨hi, rfl, rfl, rfl⟩ hnext
  repeat (first | with_reducible (first | refine zS ?_ | refine zR ?_ | refine zN ?_ | refine zK ?_ | refine zB ?_ | refine zI ?_) | refine zE rfl ?_ | refine wq ?_ | refine wg ?_ | refine ws ?_ | refine wb fun _ => ?_ | refine wa fun _ => ?_ | refine wl fun _ => ?_)
  refine run_cond rfl (fun h5 => ?_) (fun h5 => ?_)
  · have hik : i < k := by simp at h5; omega
    obtain ⟨b, hb, hb'⟩ := byte_at (s := s) (i := i + 1) (by omega)
    repeat (first | with_reducible (first | refine zS ?_ | refine zR ?_ | refine zN ?_ | refine zK ?_ | refine zB ?_ | refine zI ?_) | refine zE rfl ?_ | refine wq ?_ | refine wg ?_ | refine ws ?_ | refine wb fun _ => ?_ | refine wa fun _ => ?_ | refine wl fun _ => ?_ | refine runL_q (qt_strIndex (n := i + 1) tok rfl rfl rfl (fun _ => hb)) rfl rfl rfl ?_)
    exact run_sub' (hnext _ _ _ ⟨hik, rfl, rfl, rfl⟩) ⟨lk_succ rfl (by omega), by rw [refV, hb']; rfl, rfl, rfl, trivial⟩
  · have hik : i = k := by simp at h5; omega
    subst hik
    have hvp := refV_pos s i
    obtain ⟨v, hv⟩ : ∃ v : Nat, refV s i = v := ⟨(refV s i).toNat, by omega⟩
    refine run_as 6 (.int .u64 (v : Int)) rfl (by rw [hv]) ?_
    repeat (first | with_reducible (first | refine zS ?_ | refine zR ?_ | refine zN ?_ | refine zK ?_ | refine zB ?_ | refine zI ?_) | refine zE rfl ?_ | refine wq ?_ | refine wg ?_ | refine ws ?_ | refine wb fun _ => ?_ | refine wa fun _ => ?_ | refine wl fun _ => ?_ | refine prn_start mixed ?_ | refine prn_end (by decide +kernel) ?_ | refine dq ?_ | refine dg ?_ | (refine prn_e0 rfl (sst tok rfl rfl rfl rfl rfl) (by decide +kernel) ?_; rintro _ _ _ ⟨rfl, rfl, rfl⟩) | ((first | refine pe rfl (st_box rfl) ?_ | refine pe rfl (st_alloc tok rfl) ?_ | refine pe rfl (st_buildSlice tok rfl rfl rfl rfl rfl rfl rfl) ?_); rintro _ _ _ ⟨_, rfl, rfl, rfl⟩) | (refine prn_o0 rfl (sst tok rfl rfl rfl rfl rfl) (by decide +kernel) ?_; rintro _ _ _ ⟨rfl, rfl, rfl⟩; refine ⟨by (repeat (first | exact trivial | refine And.intro (pend_q rfl rfl rfl (qt_pev tok rfl)) ?_ | refine And.intro (pend_q rfl rfl rfl (ql tok rfl)) ?_)), ?_⟩) | ((first | refine po rfl (st_box rfl) ?_ | refine po rfl (st_alloc tok rfl) ?_ | refine po rfl (st_buildSlice tok rfl rfl rfl rfl rfl rfl rfl) ?_); rintro _ _ _ ⟨_, rfl, rfl, rfl⟩; refine ⟨by (repeat (first | exact trivial | refine And.intro (pend_q rfl rfl rfl (qt_pev tok rfl)) ?_ | refine And.intro (pend_q rfl rfl rfl (ql tok rfl)) ?_)), ?_⟩) | (refine pe rfl (qt_pev tok rfl) ?_; rintro _ _ _ ⟨rfl, rfl, rfl⟩) | refine prn_q rfl (qt_callF rfl (fun _ => num_ok _ _ v (by omega))) (by decide +kernel) rfl rfl rfl ?_ | refine prn_q rfl (qt_strHi (n := i + 1) tok rfl rfl rfl (fun _ => by omega)) (by decide +kernel) rfl rfl rfl ?_)
    refine run_cond rfl (fun h6 => ?_) (fun h6 => ?_)
    · repeat (first | with_reducible (first | refine zS ?_ | refine zR ?_ | refine zN ?_ | refine zK ?_ | refine zB ?_ | refine zI ?_) | refine zE rfl ?_ | refine wq ?_ | refine wg ?_ | refine ws ?_ | refine wb fun _ => ?_ | refine wa fun _ => ?_ | refine wl fun _ => ?_)
      refine run_ret hC (rs := [.tmp 2, .tmp 3, .tmp 4]) rfl (resT rfl (resT rfl (resT rfl resN))) (fun _ h => h) ⟨?_, rfl, rfl⟩
      have h7 : numB (refV s (refK s)).toNat ≠ s.extract 0 (refK s + 1) := by rw [hk1, hv, Int.toNat_natCast]; rw [bytes_beq] at h6; simpa using h6
      rw [refNum, if_neg h, if_neg h2, if_neg (by rw [hk1]; exact h4), if_pos h7]
      rfl
    · repeat (first | with_reducible (first | refine zS ?_ | refine zR ?_ | refine zN ?_ | refine zK ?_ | refine zB ?_ | refine zI ?_) | refine zE rfl ?_ | refine wq ?_ | refine wg ?_ | refine ws ?_ | refine wb fun _ => ?_ | refine wa fun _ => ?_ | refine wl fun _ => ?_)
      refine run_ret hC (rs := [.tmp 2, .tmp 3, .tmp 4]) rfl (resT rfl (resT rfl (resT rfl resN))) (fun _ h => h) ⟨?_, rfl, rfl⟩
      have h7 : ¬ numB (refV s (refK s)).toNat ≠ s.extract 0 (refK s + 1) := by rw [hk1, hv, Int.toNat_natCast]; rw [bytes_beq] at h6; simpa using h6
      rw [refNum, if_neg h, if_neg h2, if_neg (by rw [hk1]; exact h4), if_neg h7, hk1, hv]
      rfl
def refText (s : ByteArray) (most : Nat) : ByteArray × Int × Int :=
  if (refNum s).2.2 ≠ 0 then (⟨#[]⟩, 0, (refNum s).2.2) else
  if (most : Int) < (refNum s).1 then (⟨#[]⟩, 0, 5) else
  if (s.size : Int) - (refNum s).2.1 < (refNum s).1 then (⟨#[]⟩, 0, 6) else
  (s.extract (refNum s).2.1.toNat ((refNum s).2.1 + (refNum s).1).toNat, (refNum s).2.1 + (refNum s).1, 0)
theorem refText_imp {s : ByteArray} {most : Nat} (h : (refText s most).2.2 = 0) : textR s most = refText s most := by
  have h0 : (refNum s).2.2 = 0 := by
    apply Classical.byContradiction
    intro h0
    rw [refText, if_pos h0] at h
    exact h0 h
  rw [textR, refNum_imp h0, refText]
set_option maxRecDepth 10000 in
set_option maxHeartbeats 8000000 in
theorem refText_ok (M : Mem) (L : HL) (s : ByteArray) (most : Nat) (hs : s.size < 4611686018427387904) (hm : most < 4611686018427387904) : TrQ Tryz.prog 101 [.string s, .int .i64 (most : Int)] M L (.tuple ⟨[.string (refText s most).1, .int .i64 (refText s most).2.1, .int .i64 (refText s most).2.2]⟩) := by
  refine Tr.intro 53 Tryz.func101 rfl rfl Tryz.call101 rfl ?_
  intro C hC hro
  repeat (first | with_reducible (first | refine zS ?_ | refine zR ?_ | refine zN ?_ | refine zK ?_ | refine zB ?_ | refine zI ?_) | refine zE rfl ?_ | refine wq ?_ | refine wg ?_ | refine ws ?_ | refine wb fun _ => ?_ | refine wa fun _ => ?_ | refine wl fun _ => ?_ | refine runL_q (qt_callF rfl (fun _ => refNum_ok _ _ s)) rfl rfl rfl ?_)
  refine run_cond rfl (fun h => ?_) (fun h => ?_)
  · have h0 : (refNum s).2.2 ≠ 0 := by simpa using h
    repeat (first | with_reducible (first | refine zS ?_ | refine zR ?_ | refine zN ?_ | refine zK ?_ | refine zB ?_ | refine zI ?_) | refine zE rfl ?_ | refine wq ?_ | refine wg ?_ | refine ws ?_ | refine wb fun _ => ?_ | refine wa fun _ => ?_ | refine wl fun _ => ?_)
    exact run_ret hC (rs := [.tmp 4, .tmp 5, .tmp 6]) rfl (resT rfl (resT rfl (resT rfl resN))) (fun _ h => h) ⟨by rw [refText, if_pos h0]; rfl, rfl, rfl⟩
  have h0 : (refNum s).2.2 = 0 := by simpa using h
  have himp := refNum_imp h0
  obtain ⟨n, hn, hn1, hn2⟩ := numR_len s (by rw [himp]; exact h0)
  have hv0 := numR_pos s
  rw [himp] at hn hv0
  have e1 : IntKind.u64.wrap (most : Int) = (most : Int) := u64_nat (by omega)
  repeat (first | with_reducible (first | refine zS ?_ | refine zR ?_ | refine zN ?_ | refine zK ?_ | refine zB ?_ | refine zI ?_) | refine zE rfl ?_ | refine wq ?_ | refine wg ?_ | refine ws ?_ | refine wb fun _ => ?_ | refine wa fun _ => ?_ | refine wl fun _ => ?_)
  refine run_cond rfl (fun h1 => ?_) (fun h1 => ?_)
  · rw [e1] at h1
    have h2 : (most : Int) < (refNum s).1 := by
      simp at h1
      omega
    repeat (first | with_reducible (first | refine zS ?_ | refine zR ?_ | refine zN ?_ | refine zK ?_ | refine zB ?_ | refine zI ?_) | refine zE rfl ?_ | refine wq ?_ | refine wg ?_ | refine ws ?_ | refine wb fun _ => ?_ | refine wa fun _ => ?_ | refine wl fun _ => ?_)
    exact run_ret hC (rs := [.tmp 4, .tmp 5, .tmp 6]) rfl (resT rfl (resT rfl (resT rfl resN))) (fun _ h => h) ⟨by rw [refText, if_neg (by simp [h0]), if_pos h2]; rfl, rfl, rfl⟩
  rw [e1] at h1
  have h2 : ¬ (most : Int) < (refNum s).1 := by
    simp at h1
    omega
  have e2 : IntKind.u64.wrap (IntKind.i64.wrap ((s.size : Int) - (refNum s).2.1)) = (s.size : Int) - (refNum s).2.1 := by
    rw [hn, show (s.size : Int) - (n : Int) = ((s.size - n : Nat) : Int) by omega, wrap64_nat (by omega), u64_nat (by omega)]
  obtain ⟨v, hv⟩ : ∃ v : Nat, (refNum s).1 = v := ⟨(refNum s).1.toNat, by omega⟩
  repeat (first | with_reducible (first | refine zS ?_ | refine zR ?_ | refine zN ?_ | refine zK ?_ | refine zB ?_ | refine zI ?_) | refine zE rfl ?_ | refine wq ?_ | refine wg ?_ | refine ws ?_ | refine wb fun _ => ?_ | refine wa fun _ => ?_ | refine wl fun _ => ?_)
  refine run_cond rfl (fun h3 => ?_) (fun h3 => ?_)
  · have h4 : (s.size : Int) - (refNum s).2.1 < (refNum s).1 := by
      have := of_decide_eq_true h3
      rwa [e2] at this
    repeat (first | with_reducible (first | refine zS ?_ | refine zR ?_ | refine zN ?_ | refine zK ?_ | refine zB ?_ | refine zI ?_) | refine zE rfl ?_ | refine wq ?_ | refine wg ?_ | refine ws ?_ | refine wb fun _ => ?_ | refine wa fun _ => ?_ | refine wl fun _ => ?_)
    exact run_ret hC (rs := [.tmp 4, .tmp 5, .tmp 6]) rfl (resT rfl (resT rfl (resT rfl resN))) (fun _ h => h) ⟨by rw [refText, if_neg (by simp [h0]), if_neg h2, if_pos h4]; rfl, rfl, rfl⟩
  have h4 : ¬ (s.size : Int) - (refNum s).2.1 < (refNum s).1 := by
    have := of_decide_eq_false h3
    rwa [e2] at this
  refine run_as 8 (.int .i64 (n : Int)) rfl (by rw [hn]) ?_
  refine run_as 7 (.int .u64 (v : Int)) rfl (by rw [hv]) ?_
  have e3 : IntKind.i64.wrap ((n : Int) + IntKind.i64.wrap (v : Int)) = ((n + v : Nat) : Int) := by
    rw [wrap64_nat (by omega), show (n : Int) + (v : Int) = ((n + v : Nat) : Int) by omega, wrap64_nat (by omega)]
  repeat (first | with_reducible (first | refine zS ?_ | refine zR ?_ | refine zN ?_ | refine zK ?_ | refine zB ?_ | refine zI ?_) | refine zE rfl ?_ | refine wq ?_ | refine wg ?_ | refine ws ?_ | refine wb fun _ => ?_ | refine wa fun _ => ?_ | refine wl fun _ => ?_)
  refine runL_as 47 (.int .i64 ((n + v : Nat) : Int)) rfl (by rw [e3]) ?_
  repeat (first | with_reducible (first | refine zS ?_ | refine zR ?_ | refine zN ?_ | refine zK ?_ | refine zB ?_ | refine zI ?_) | refine zE rfl ?_ | refine wq ?_ | refine wg ?_ | refine ws ?_ | refine wb fun _ => ?_ | refine wa fun _ => ?_ | refine wl fun _ => ?_ | refine runL_q (qt_strMid tok rfl rfl rfl rfl (fun _ => ⟨by omega, by omega⟩)) rfl rfl rfl ?_)
  refine run_ret hC (rs := [.tmp 4, .tmp 5, .tmp 6]) rfl (resT rfl (resT rfl (resT rfl resN))) (fun _ h => h) ⟨?_, rfl, rfl⟩
  rw [refText, if_neg (by simp [h0]), if_neg h2, if_neg h4, e3, hn, hv, show ((n : Int) + (v : Int)).toNat = n + v by omega, Int.toNat_natCast, show (n : Int) + (v : Int) = ((n + v : Nat) : Int) by omega]
  rfl
end Go.Proofs.YtkjljcgbnikmkaaGreatDoor
namespace Go.Chi

section
variable {P : Program} {T : TT} {ro : Option Nat} {σ : Env} {δ : Den} {cur : Path} {M : Mem} {L : HL} {d : Option Nat} {op : Op} {ty : TypeId} {pos : String} {aft : Array Edge} {g : Option (Nat × Bool)} {v : Value}
/-- an array's place -/
theorem qt_indexA (hT : TOk P T) {t : TypeId} {x y : Operand} {b off len : Nat} {k : IntKind} {n e s : Nat}
    (hx : ev σ δ cur x = some (.pointer (some ⟨b, off, none⟩))) (hy : ev σ δ cur y = some (.int k (n : Int))) (hu : und T t = some (.array len e)) (hi : sizeT T e = some s) (hb : Hy σ δ cur → n < len) :
    Qt P ro ⟨d, .indexAddr t x y, ty, pos, aft, g⟩ σ δ cur M L (.pointer (some ⟨b, off + n * s, none⟩)) :=
  qt_of_run (semAt_of (by intro c e; cases e)) fun a w hs hcur hp => by
    have h := hb (Hy_of hs hcur)
    simp [execOp, Instr.indexAt, Instr.sureAddr, ev_sound hs hcur hx, ev_sound hs hcur hy, asIntOf, run_und hT hu, run_sizeT hT hi, add_none, h]
/-- an array's end as a slice -/
theorem qt_sliceArr (hT : TOk P T) {t : TypeId} {x y : Operand} {b off len : Nat} {k : IntKind} {n e s : Nat}
    (hx : ev σ δ cur x = some (.pointer (some ⟨b, off, none⟩))) (hy : ev σ δ cur y = some (.int k (n : Int))) (hu : und T t = some (.array len e)) (hi : sizeT T e = some s) (hb : Hy σ δ cur → n < len) :
    Qt P ro ⟨d, .slice t x (some y) none none, ty, pos, aft, g⟩ σ δ cur M L (.slice (some ⟨b, off + n * s, none⟩) (len - n) (len - n)) :=
  qt_of_run (semAt_of (by intro c e; cases e)) fun a w hs hcur hp => by
    have h := hb (Hy_of hs hcur)
    have h1 : n ≤ len := by omega
    have h2 : ¬ len = n := by omega
    simp [execOp, Instr.sliceAt, Instr.sureAddr, Instr.sliceBounds, Instr.sliceBound, ev_sound hs hcur hx, ev_sound hs hcur hy, asIntOf, run_und hT hu, run_sizeT hT hi, add_none, h1, h2]
/-- a slice's bytes as a text, from any place on -/
theorem qt_bytesStrO (hT : TOk P T) {s t e : TypeId} {x : Operand} {b o n c : Nat} (ns : List Int) (hs' : und T s = some (.slice e)) (he : und T e = some (.int .u8)) (hu : und T t = some .string) (hx : ev σ δ cur x = some (.slice (some ⟨b, o, none⟩) n c)) (hc : Cells M L b o (ns.map (Value.int .u8))) (hl : ns.length = n) :
    Qt P ro ⟨d, .convert s t x, ty, pos, aft, g⟩ σ δ cur M L (.string (bytesI ns)) :=
  qt_of_run (semAt_of (by intro c e; cases e)) fun a w hs hcur hp => by
    have h1 := run_loadCells (P := P) hp (ns.map (Value.int .u8)) [] (by simpa using hc)
    have h2 : (loadCells ⟨b, o, none⟩ n).run P w = .ok (ns.map (Value.int .u8)).toArray w := by
      simp only [List.length_nil, List.nil_append, List.length_map, hl] at h1
      exact h1
    have h3 := run_bytesToString w ⟨b, o, none⟩ n c ns h2
    have h4 := run_convert_bytes_string (P := P) w s t e (some ⟨b, o, none⟩) n c (und_ok hT hs') (und_ok hT he) (und_ok hT hu)
    simp only [execOp, ev_sound hs hcur hx, Sem.run_bind, h4, h3, Result.andThen_ok, Sem.run_pure]
    rfl
end
theorem bytesI_ext (ns : List Int) : ∀ r : ByteArray, (ns.foldl (fun r n => r.push (UInt8.ofNat n.toNat)) r).data.toList = r.data.toList ++ ns.map (fun n => UInt8.ofNat n.toNat) := by
  induction ns with
  | nil => intro r; simp
  | cons x ns ih => intro r; rw [List.foldl_cons, ih]; simp
theorem bytesI_list (ns : List Int) : (bytesI ns).data.toList = ns.map (fun n => UInt8.ofNat n.toNat) := by
  unfold bytesI
  rw [bytesI_ext]
  rfl
theorem bytesI_app (a b : List Int) : bytesI (a ++ b) = bytesI a ++ bytesI b := by
  apply ByteArray.ext
  apply Array.ext'
  simp [ByteArray.data_append, bytesI_list]
/-- a byte is put ahead of the end of a block of cells -/
theorem setSeg_tail {cs : List Value} {k : Nat} (v : Value) (hk : k + 1 ≤ cs.length) : (setSeg cs k [v]).length = cs.length ∧ (setSeg cs k [v]).drop k = v :: cs.drop (k + 1) := by
  unfold setSeg
  constructor
  · simp; omega
  · rw [List.append_assoc, List.drop_append_of_le_length (by simp; omega), List.drop_eq_nil_of_le (by simp; omega)]
    simp
theorem Cells.tail {M : Mem} {L : HL} {b k : Nat} {cs xs : List Value} {et : TypeId} {fz : Nat × Nat} (hm : (b, Obj.cells ⟨cs⟩ et fz) ∈ L) (h : cs.drop k = xs) : Cells M L b k xs := by
  obtain ⟨cs', t', fz', hb, hc⟩ := cellsAll (M := M) hm
  refine ⟨cs', t', fz', hb, fun i v hv => hc (k + i) v ?_ |> fun h => by simpa using h⟩
  rw [← h, List.getElem?_drop] at hv
  exact hv
end Go.Chi
namespace Go.Proofs.YtkjljcgbnikmkaaGreatDoor
open Go.Chi
set_option maxRecDepth 10000

/-! ### words of 32 bits -/
abbrev B32 := BitVec 32
def U (b : B32) : Int := (b.toNat : Int)
def wU (b : B32) : Value := .int .u32 (U b)
theorem u32_wrap (x : Int) : IntKind.u32.wrap x = x % 4294967296 := by
  simp only [IntKind.wrap, IntKind.signed, IntKind.bits]
  simp
theorem ofU (b : B32) : BitVec.ofInt 32 (U b) = b := by
  apply BitVec.eq_of_toNat_eq
  have := b.isLt
  unfold U
  rw [BitVec.toNat_ofInt]; omega
theorem wrapU (b : B32) : IntKind.u32.wrap (U b) = U b := by
  have := b.isLt
  rw [u32_wrap]; unfold U; omega
theorem u_and (a b : B32) : iand .u32 (U a) (U b) = U (a &&& b) := by
  show IntKind.u32.wrap (((BitVec.ofInt 32 (U a) &&& BitVec.ofInt 32 (U b)).toNat : Nat) : Int) = _
  rw [ofU, ofU]; exact wrapU _
theorem u_or (a b : B32) : ior .u32 (U a) (U b) = U (a ||| b) := by
  show IntKind.u32.wrap (((BitVec.ofInt 32 (U a) ||| BitVec.ofInt 32 (U b)).toNat : Nat) : Int) = _
  rw [ofU, ofU]; exact wrapU _
theorem u_xor (a b : B32) : ixor .u32 (U a) (U b) = U (a ^^^ b) := by
  show IntKind.u32.wrap (((BitVec.ofInt 32 (U a) ^^^ BitVec.ofInt 32 (U b)).toNat : Nat) : Int) = _
  rw [ofU, ofU]; exact wrapU _
theorem u_add (a b : B32) : IntKind.u32.wrap (U a + U b) = U (a + b) := by
  rw [u32_wrap]; unfold U; rw [BitVec.toNat_add]; omega
theorem u_shr (a : B32) {n : Nat} (h : n < 32) : ishr .u32 (U a) (n : Int) = U (a >>> n) := by
  have e : min ((n : Int).toNat) (IntKind.bits .u32) = n := by
    rw [Int.toNat_natCast]; exact Nat.min_eq_left (by show n ≤ 32; omega)
  unfold ishr; rw [e]; unfold U
  rw [BitVec.toNat_ushiftRight, Nat.shiftRight_eq_div_pow]
  have : ((2 : Int) ^ n) = ((2 ^ n : Nat) : Int) := by simp
  rw [this, Int.fdiv_eq_ediv_of_nonneg _ (Int.natCast_nonneg _)]
  exact (Int.natCast_ediv _ _).symm
theorem u_shl (a : B32) {n : Nat} (h : n < 32) : ishl .u32 (U a) (n : Int) = U (a <<< n) := by
  have e : min ((n : Int).toNat) (IntKind.bits .u32) = n := by
    rw [Int.toNat_natCast]; exact Nat.min_eq_left (by show n ≤ 32; omega)
  unfold ishl; rw [e, u32_wrap]; unfold U
  rw [BitVec.toNat_shiftLeft, Nat.shiftLeft_eq]
  have : ((2 : Int) ^ n) = ((2 ^ n : Nat) : Int) := by simp
  rw [this, ← Int.natCast_mul]
  omega
def rotr (x : B32) (n : Nat) : B32 := (x <<< (32 - n)) ||| (x >>> n)
theorem rot_fact : ∀ n : Fin 32, n.val ≠ 0 → iand .u64 (IntKind.u64.wrap (IntKind.i64.wrap (0 - (n.val : Int)))) 31 = ((32 - n.val : Nat) : Int) := by decide +kernel
theorem rotl_ok (M : Mem) (L : HL) (x : B32) (n : Nat) (h0 : n ≠ 0) (h : n < 32) : TrQ Tryz.prog 140 [wU x, .int .i64 (IntKind.i64.wrap (0 - (n : Int)))] M L (wU (rotr x n)) := by
  have hf := rot_fact ⟨n, h⟩ h0
  simp only at hf
  unfold wU
  refine Tr.intro 17 Tryz.func140 rfl rfl Tryz.call140 rfl ?_
  intro C hC hro
  repeat (first | with_reducible (first | refine zS ?_ | refine zR ?_ | refine zN ?_ | refine zK ?_ | refine zB ?_ | refine zI ?_) | refine zE rfl ?_ | refine wq ?_ | refine wg ?_ | refine ws ?_ | refine wb fun _ => ?_ | refine wa fun _ => ?_ | refine wl fun _ => ?_)
  refine runL_as 10 (.int .u64 ((32 - n : Nat) : Int)) rfl (congrArg (Value.int .u64) hf) ?_
  refine runL_as 5 (.int .u64 ((32 - n : Nat) : Int)) rfl (congrArg (Value.int .u64) hf) ?_
  refine runL_q (qt_shl rfl rfl (fun _ => by omega)) rfl rfl rfl ?_
  repeat (first | with_reducible (first | refine zS ?_ | refine zR ?_ | refine zN ?_ | refine zK ?_ | refine zB ?_ | refine zI ?_) | refine zE rfl ?_ | refine wq ?_ | refine wg ?_ | refine ws ?_ | refine wb fun _ => ?_ | refine wa fun _ => ?_ | refine wl fun _ => ?_)
  have e2 : IntKind.u64.wrap (32 - ((32 - n : Nat) : Int)) = (n : Int) := by rw [u64_wrap]; omega
  refine runL_as 14 (.int .u64 (n : Int)) rfl (congrArg (Value.int .u64) e2) ?_
  refine runL_q (qt_shr rfl rfl (fun _ => by omega)) rfl rfl rfl ?_
  repeat (first | with_reducible (first | refine zS ?_ | refine zR ?_ | refine zN ?_ | refine zK ?_ | refine zB ?_ | refine zI ?_) | refine zE rfl ?_ | refine wq ?_ | refine wg ?_ | refine ws ?_ | refine wb fun _ => ?_ | refine wa fun _ => ?_ | refine wl fun _ => ?_)
  refine run_ret hC (rs := [.tmp 4]) rfl (resT rfl resN) (fun _ h => h) ⟨?_, rfl, rfl⟩
  show Value.int .u32 (ior .u32 (ishl .u32 (U x) ((32 - n : Nat) : Int)) (ishr .u32 (U x) (n : Int))) = _
  rw [u_shl _ (by omega), u_shr _ h, u_or]
  rfl
theorem right_ok (M : Mem) (L : HL) (x : B32) (n : Nat) (h0 : n ≠ 0) (h : n < 32) : TrQ Tryz.prog 130 [wU x, .int .i64 (n : Int)] M L (wU (rotr x n)) := by
  unfold wU
  refine Tr.intro 9 Tryz.func130 rfl rfl Tryz.call130 rfl ?_
  intro C hC hro
  repeat (first | with_reducible (first | refine zS ?_ | refine zR ?_ | refine zN ?_ | refine zK ?_ | refine zB ?_ | refine zI ?_) | refine zE rfl ?_ | refine wq ?_ | refine wg ?_ | refine ws ?_ | refine wb fun _ => ?_ | refine wa fun _ => ?_ | refine wl fun _ => ?_ | refine runL_q (qt_callF rfl (fun _ => rotl_ok _ _ x n h0 h)) rfl rfl rfl ?_)
  exact run_ret hC (rs := [.tmp 4]) rfl (resT rfl resN) (fun _ h => h) ⟨rfl, rfl, rfl⟩
end Go.Proofs.YtkjljcgbnikmkaaGreatDoor
namespace Go.Chi

section
variable {P : Program} {T : TT} {ro : Option Nat} {σ : Env} {δ : Den} {cur : Path} {M : Mem} {L : HL} {d : Option Nat} {op : Op} {ty : TypeId} {pos : String} {aft : Array Edge} {g : Option (Nat × Bool)} {v : Value}

/-- a new slice of one-celled elements -/
theorem st_makeSlice (hT : TOk P T) {t e by_ : Nat} {z : Value} {x y : Operand} {k k' : IntKind} (n : Nat) (ht : und T t = some (.slice e)) (hi : sizeT T e = some 1) (hz : zeroT T e = some z) (hzc : cellsL z = [z]) (hb : bytesT T e = some by_)
    (hx : ev σ δ cur x = some (.int k (n : Int))) (hy : ev σ δ cur y = some (.int k' (n : Int))) (hroom : by_ * n ≤ 281474976710656) (hn : n < 4611686018427387904) :
    St P ro ⟨d, .makeSlice t x y, ty, pos, aft, g⟩ σ δ cur M L (fun v' M' L' => ∃ b, v' = .slice (some ⟨b, 0, none⟩) n n ∧ M = M' ∧ L' = (b, .cells ⟨List.replicate n z⟩ e (0, 0)) :: L) := fun a w hs hcur hp => by
  obtain ⟨i, hi1, his⟩ := sizeT_ok hi
  obtain ⟨i2, hi2, hz2⟩ := zeroT_ok hz
  obtain ⟨i3, hi3, rfl⟩ := bytesT_ok hb
  rw [hi1] at hi2 hi3
  cases hi2
  cases hi3
  have hrun := run_make (P := P) w t e i z (und_ok hT ht) (hT.info _ _ hi1) hz2 k k' n n (by omega) (Int.le_refl _) (by
    have h : ((i.bytes * n : Nat) : Int) ≤ 281474976710656 := by omega
    rwa [Int.natCast_mul] at h) (by omega)
  have hcells : madeCells z.cells (n * i.size) = ⟨List.replicate n z⟩ := by
    have : z.cells = #[z] := by apply Array.ext'; rw [cellsL_eq]; exact hzc
    rw [his, Nat.mul_one, this]
    exact Array.ext' (toList_madeCells_one z n)
  simp only [Int.toNat_natCast, hcells] at hrun
  refine opWp_value (v := .slice (some ⟨w.heap.size, 0, none⟩) n n) (w' := w.alloc (.cells ⟨List.replicate n z⟩ e)) ?_ ⟨M, _, hp.push _, _, rfl, rfl, rfl⟩
  rw [semAt_of (by intro c e; cases e)]
  simp only [execOp, ev_sound hs hcur hx, ev_sound hs hcur hy, Sem.run_bind, hrun, Result.andThen_ok, Sem.run_pure]
/-- one-celled elements are copied into a block of ours -/
theorem st_copy (hT : TOk P T) {x y : Operand} {t e b o dl dc b' o' sl sc : Nat} {cs news : List Value} {et : TypeId} {L' : HL} (hx : ev σ δ cur x = some (.slice (some ⟨b, o, none⟩) dl dc)) (hy : ev σ δ cur y = some (.slice (some ⟨b', o', none⟩) sl sc))
    (ht : und T t = some (.slice e)) (hi : sizeT T e = some 1) (hsrc : Cells M L b' o' news) (hlen : news.length = Nat.min sl dl) (hfit : o + news.length ≤ cs.length) (h1 : oneL news = true)
    (hu : Upd L b (.cells ⟨cs⟩ et (0, 0)) (.cells ⟨setSeg cs o news⟩ et (0, 0)) L') :
    St P ro ⟨d, .call ⟨.builtin .copy, #[x, y], #[t, t]⟩, ty, pos, aft, g⟩ σ δ cur M L (fun v' M' L'' => v' = .int .i64 (news.length : Int) ∧ M = M' ∧ L'' = L') := fun a w hse hcur hp => by
  obtain ⟨i, hi1, his⟩ := sizeT_ok hi
  have hes := ev_sound hse hcur hx
  have hey := ev_sound hse hcur hy
  have hrun := run_copy_row (P := P) w t t ty e b o dl dc ⟨b', o', none⟩ sl sc ⟨cs⟩ et news (und_ok hT ht) (by rw [hT.info _ _ hi1]; simp [his]) (hp.own _ hu.mem) hlen
    (fun j v hv => by
      have := hsrc.cell hp hv
      simpa [add_none] using this) (by simpa using hfit) (oneL_ok h1)
  refine opWp_value (v := .int .i64 (news.length : Int)) (w' := w.setRow b ⟨setSeg cs o news⟩) ?_ ⟨M, L', hp.setRow hu, rfl, rfl, rfl⟩
  rw [semAt_of (by intro c e; cases e)]
  simp only [execOp, resolve, Sem.run_bind, Sem.run_pure, Result.andThen_ok, invoke, builtin, List.map_toArray, List.map_cons, List.map_nil, hes, hey, hrun]
  rfl
end

section
variable {P : Program} {ro : Option Nat} {o : Oper} {σ : Env} {δ : Den} {cur : Path} {M : Mem} {L : HL}
/-- an operation whose guard is never met -/
theorem qt_dead {s : Nat} {b b' : Bool} {v : Value} (hl : lka σ δ cur s = some (.bool b')) (hs : (s, b) ∈ cur) (hne : b' ≠ b) : Qt P ro o σ δ cur M L v := fun a w h1 h2 h3 => by
  have e1 := lka_sound h1 h2 hl
  have e2 := h2 _ hs
  rw [e1] at e2
  injection e2 with e2
  injection e2 with e2
  exact absurd e2 hne
theorem St.frz {K K' : Value → Mem → HL → Prop} (h : St P ro o σ δ cur M L K) (hk : ∀ v M' L' w, Hp M' L' w → K v M' L' → ∃ M'' L'', Hp M'' L'' w ∧ K' v M'' L'') : St P ro o σ δ cur M L K' :=
  fun a w h1 h2 h3 => (h a w h1 h2 h3).mono fun _ _ ⟨_, _, h4, h5⟩ => hk _ _ _ _ h4 h5
/-- a block that was made just now is given up for good -/
theorem St.frz1 {V : Nat → Value} {ob : Obj} (h : St P ro o σ δ cur M L (fun v' M' L' => ∃ b, v' = V b ∧ M = M' ∧ L' = (b, ob) :: L)) : St P ro o σ δ cur M L (fun v' M' L' => M.le M' ∧ L = L' ∧ ∃ b, v' = V b ∧ M'.blk b = some ob) :=
  h.frz fun v M' L' w hw ⟨b, h1, h2, h3⟩ => by
    subst h2 h3
    obtain ⟨M2, h4, h5, h6⟩ := hw.freeze1
    exact ⟨M2, L, h6, h4, rfl, b, h1, h5⟩
end
/-- what a call makes of blocks that are given up before it -/
theorem Tr.give {P : Program} {f : FuncId} {args : List Value} {M : Mem} {N L : HL} {K : Value → Mem → HL → Prop} (hc : ∀ w, (callFunc f ⟨args⟩).run P w = .ok (.enter f ⟨args⟩) w)
    (h : ∀ M', M.le M' → (∀ b o, (b, o) ∈ N → M'.blk b = some o) → Tr P f args M' L K) : Tr P f args M (N ++ L) K := by
  refine ⟨hc, fun w hw => ?_⟩
  have key : ∀ (N : HL) (M : Mem), Hp M (N ++ L) w → ∃ M', M.le M' ∧ (∀ b o, (b, o) ∈ N → M'.blk b = some o) ∧ Hp M' L w := by
    intro N
    induction N with
    | nil => exact fun M h => ⟨M, Mem.le_refl _, (fun b o h => by cases h), h⟩
    | cons x N ih =>
      intro M h
      obtain ⟨M1, h1, h2, h3⟩ := Hp.freeze1 (b := x.1) (o := x.2) h
      obtain ⟨M2, h4, h5, h6⟩ := ih M1 h3
      exact ⟨M2, Mem.le_trans h1 h4, fun b o hm => by
        rcases List.mem_cons.1 hm with e | hm
        · cases e; exact h4.blk _ _ h2
        · exact h5 b o hm, h6⟩
  obtain ⟨M1, h1, h2, h3⟩ := key N M hw
  exact (h M1 h1 h2).2 w h3
theorem rep_flat (z : Value) : ∀ n : Nat, List.replicate n z = (List.replicate n [z]).flatten
  | 0 => rfl
  | n + 1 => by rw [List.replicate_succ, List.replicate_succ, List.flatten_cons, ← rep_flat z n]; rfl
/-- the block's cells as a slice -/
theorem SlM.rep {M : Mem} {b e n : Nat} {z : Value} (h : M.blk b = some (.cells ⟨List.replicate n z⟩ e (0, 0))) : SlM M 1 (some ⟨b, 0, none⟩) n (List.replicate n [z]) := by
  have := SlM.ofBlk (M := M) (b := b) (e := e) (size := 1) (ls := List.replicate n [z]) h (rep_flat z n) (fun l hl => by rw [(List.mem_replicate.1 hl).2]; rfl)
  simpa using this
section
variable {P : Program} {C : Cx} {n : Nat} {k : List Item} {ds : List Deferred} {σ : Env} {δ : Den} {M : Mem} {L : HL} {ops : Array Oper} {X : List Nat}
theorem pr_three {D : List Nat} (e f g : Nat) (hac : (acyc ops && chkC ops D [e, f, g]) = true) (h : chkE1 ops D e = true ∧ EffOk P C n ops k ds D X σ δ M L e) (h' : chkE1 ops D f = true ∧ EffOk P C n ops k ds D X σ δ M L f) (h'' : chkE1 ops D g = true ∧ EffOk P C n ops k ds D X σ δ M L g) : PR P C n ops k ds D X σ δ M L := by
  rw [Bool.and_eq_true] at hac
  refine pr_es [e, f, g] hac.1 hac.2 (by simp) fun x hx => ?_
  simp only [List.mem_cons, List.not_mem_nil, or_false] at hx
  rcases hx with rfl | rfl | rfl
  · exact h
  · exact h'
  · exact h''
theorem pr_four {D : List Nat} (e f g i : Nat) (hac : (acyc ops && chkC ops D [e, f, g, i]) = true) (h : chkE1 ops D e = true ∧ EffOk P C n ops k ds D X σ δ M L e) (h' : chkE1 ops D f = true ∧ EffOk P C n ops k ds D X σ δ M L f) (h'' : chkE1 ops D g = true ∧ EffOk P C n ops k ds D X σ δ M L g) (h4 : chkE1 ops D i = true ∧ EffOk P C n ops k ds D X σ δ M L i) : PR P C n ops k ds D X σ δ M L := by
  rw [Bool.and_eq_true] at hac
  refine pr_es [e, f, g, i] hac.1 hac.2 (by simp) fun x hx => ?_
  simp only [List.mem_cons, List.not_mem_nil, or_false] at hx
  rcases hx with rfl | rfl | rfl | rfl
  · exact h
  · exact h'
  · exact h''
  · exact h4
end
end Go.Chi
namespace Go.Chi
/-! ### cells that are told by a function -/
def fc {α : Type} (f : Nat → α) (n : Nat) : List α := (List.range n).map f
theorem fc_len {α : Type} (f : Nat → α) (n : Nat) : (fc f n).length = n := by simp [fc]
theorem fc_get {α : Type} {f : Nat → α} {n j : Nat} (h : j < n) : (fc f n)[j]? = some (f j) := by simp [fc, h]
theorem fc_ext {α : Type} {f g : Nat → α} {n : Nat} (h : ∀ i, i < n → f i = g i) : fc f n = fc g n := by
  unfold fc
  apply List.map_congr_left
  intro i hi
  exact h i (List.mem_range.1 hi)
def fput {α : Type} (f : Nat → α) (j : Nat) (v : α) : Nat → α := fun x => if x = j then v else f x
theorem fput_same {α : Type} (f : Nat → α) (j : Nat) (v : α) : fput f j v j = v := if_pos rfl
theorem fput_ne {α : Type} (f : Nat → α) {j x : Nat} (v : α) (h : x ≠ j) : fput f j v x = f x := if_neg h
theorem fc_set {α : Type} {f : Nat → α} {n j : Nat} (v : α) : (fc f n).set j v = fc (fput f j v) n := by
  apply List.ext_getElem?
  intro i
  by_cases hi : i < n
  · rw [fc_get hi, List.getElem?_set, fc_get hi, fc_len]
    by_cases e : j = i
    · subst e; simp [fput_same, hi]
    · rw [if_neg e, fput_ne _ _ (fun x => e x.symm)]
  · rw [List.getElem?_eq_none (by rw [List.length_set, fc_len]; omega), List.getElem?_eq_none (by rw [fc_len]; omega)]
theorem setSeg_one {cs : List Value} {j : Nat} {v : Value} (h : j < cs.length) : setSeg cs j [v] = cs.set j v := by
  unfold setSeg
  rw [List.set_eq_take_append_cons_drop, if_pos h]
  simp
theorem fc_put {f : Nat → Value} {n j : Nat} (v : Value) (h : j < n) : setE (fc f n) j [v] = some (fc (fput f j v) n) := by
  rw [setE_of (by rw [fc_len, List.length_singleton]; omega), setSeg_one (by rw [fc_len]; exact h), fc_set]
theorem ldE_at {T : TT} {t : TypeId} {cs : List Value} {off : Nat} {v : Value} (ha : aggT T t = some false) (hv : cs[off]? = some v) : ldE T t cs off = some v := by
  unfold ldE partL
  rw [ha]
  exact hv
section
variable {P : Program} {T : TT} {ro : Option Nat} {σ : Env} {δ : Den} {cur : Path} {M : Mem} {L : HL} {d : Option Nat} {op : Op} {ty : TypeId} {pos : String} {aft : Array Edge} {g : Option (Nat × Bool)} {v : Value}
/-- an array's place, the index a constant -/
theorem qt_indexC (hT : TOk P T) {t : TypeId} {x y : Operand} {b off len : Nat} {k : IntKind} {z : Int} {e s : Nat}
    (hx : ev σ δ cur x = some (.pointer (some ⟨b, off, none⟩))) (hy : ev σ δ cur y = some (.int k z)) (hu : und T t = some (.array len e)) (hi : sizeT T e = some s) (hb : Hy σ δ cur → 0 ≤ z ∧ z < len) :
    Qt P ro ⟨d, .indexAddr t x y, ty, pos, aft, g⟩ σ δ cur M L (.pointer (some ⟨b, off + z.toNat * s, none⟩)) :=
  qt_of_run (semAt_of (by intro c e; cases e)) fun a w hs hcur hp => by
    have h := hb (Hy_of hs hcur)
    simp [execOp, Instr.indexAt, Instr.sureAddr, ev_sound hs hcur hx, ev_sound hs hcur hy, asIntOf, run_und hT hu, run_sizeT hT hi, add_none, h]
/-- a part of an array as a slice -/
theorem qt_sliceArr2 (hT : TOk P T) {t : TypeId} {x y z : Operand} {b off len : Nat} {k k' : IntKind} {n m e s : Nat}
    (hx : ev σ δ cur x = some (.pointer (some ⟨b, off, none⟩))) (hy : ev σ δ cur y = some (.int k (n : Int))) (hz : ev σ δ cur z = some (.int k' (m : Int))) (hu : und T t = some (.array len e)) (hi : sizeT T e = some s) (hb : Hy σ δ cur → n < m ∧ m ≤ len) :
    Qt P ro ⟨d, .slice t x (some y) (some z) none, ty, pos, aft, g⟩ σ δ cur M L (.slice (some ⟨b, off + n * s, none⟩) (m - n) (len - n)) :=
  qt_of_run (semAt_of (by intro c e; cases e)) fun a w hs hcur hp => by
    have h := hb (Hy_of hs hcur)
    have h1 : n ≤ m := by omega
    have h2 : ¬ len = n := by omega
    simp [execOp, Instr.sliceAt, Instr.sureAddr, Instr.sliceBounds, Instr.sliceBound, ev_sound hs hcur hx, ev_sound hs hcur hy, ev_sound hs hcur hz, asIntOf, run_und hT hu, run_sizeT hT hi, add_none, h.2, h1, h2]
/-- a whole array as a slice -/
theorem qt_sliceAll (hT : TOk P T) {t : TypeId} {x : Operand} {b off len : Nat} {e s : Nat}
    (hx : ev σ δ cur x = some (.pointer (some ⟨b, off, none⟩))) (hu : und T t = some (.array len e)) (hi : sizeT T e = some s) :
    Qt P ro ⟨d, .slice t x none none none, ty, pos, aft, g⟩ σ δ cur M L (.slice (some ⟨b, off, none⟩) len len) :=
  qt_of_run (semAt_of (by intro c e; cases e)) fun a w hs hcur hp => by
    simp [execOp, Instr.sliceAt, Instr.sureAddr, Instr.sliceBounds, ev_sound hs hcur hx, run_und hT hu, run_sizeT hT hi, add_none]
/-- an element of an array's value -/
theorem qt_indexV (hT : TOk P T) {t : TypeId} {x y : Operand} {cs : Array Value} {len : Nat} {k : IntKind} {n e : Nat}
    (hx : ev σ δ cur x = some (.agg cs)) (hy : ev σ δ cur y = some (.int k (n : Int))) (hu : und T t = some (.array len e)) (hi : sizeT T e = some 1) (hv : Hy σ δ cur → n < len ∧ partL T e cs.toList n = some v) :
    Qt P ro ⟨d, .index t x y, ty, pos, aft, g⟩ σ δ cur M L v :=
  qt_of_run (semAt_of (by intro c e; cases e)) fun a w hs hcur hp => by
    have h := hv (Hy_of hs hcur)
    simp [execOp, Instr.index, ev_sound hs hcur hx, ev_sound hs hcur hy, asIntOf, run_und hT hu, run_sizeT hT hi, h.1, run_part hT h.2]
/-- a part of a slice, with a bound of its own -/
theorem qt_slice3 (hT : TOk P T) {t : TypeId} {x y z : Operand} {a : Option Addr} {len cap n e s : Nat} {k k' : IntKind}
    (hx : ev σ δ cur x = some (.slice a len cap)) (hy : ev σ δ cur y = some (.int k (n : Int))) (hz : ev σ δ cur z = some (.int k' (n : Int))) (hu : und T t = some (.slice e)) (hi : sizeT T e = some s) (hb : Hy σ δ cur → n ≤ cap) :
    Qt P ro ⟨d, .slice t x none (some y) (some z), ty, pos, aft, g⟩ σ δ cur M L (.slice (subA s a n 0) n n) :=
  qt_of_run (semAt_of (by intro c e; cases e)) fun act w hs hcur hp => by
    have h := hb (Hy_of hs hcur)
    simp [execOp, Instr.sliceAt, Instr.slice, Instr.sliceBounds, Instr.sliceBound, ev_sound hs hcur hx, ev_sound hs hcur hy, ev_sound hs hcur hz, asIntOf, run_und hT hu, run_sizeT hT hi, h, subA]
/-- a text's bytes, as cells -/
def bC (l : List UInt8) : List Value := l.map fun b => .int .u8 (b.toNat : Int)
theorem bC_len (l : List UInt8) : (bC l).length = l.length := by simp [bC]
theorem bC_one (l : List UInt8) : oneL (bC l) = true := by
  unfold bC
  induction l with
  | nil => rfl
  | cons b l ih => exact ih
/-- a text is copied into a block of ours -/
theorem st_copyStr (hT : TOk P T) {x y : Operand} {t t' e b o dl dc : Nat} {cs : List Value} {s : ByteArray} {et : TypeId} {L' : HL} (hx : ev σ δ cur x = some (.slice (some ⟨b, o, none⟩) dl dc)) (hy : ev σ δ cur y = some (.string s))
    (ht : und T t = some (.slice e)) (hi : sizeT T e = some 1) (hfit : o + min s.size dl ≤ cs.length)
    (hu : Upd L b (.cells ⟨cs⟩ et (0, 0)) (.cells ⟨setSeg cs o (bC (s.data.toList.take (min s.size dl)))⟩ et (0, 0)) L') :
    St P ro ⟨d, .call ⟨.builtin .copy, #[x, y], #[t, t']⟩, ty, pos, aft, g⟩ σ δ cur M L (fun v' M' L'' => v' = .int .i64 ((min s.size dl : Nat) : Int) ∧ M = M' ∧ L'' = L') := fun a w hse hcur hp => by
  obtain ⟨i, hi1, his⟩ := sizeT_ok hi
  have hes := ev_sound hse hcur hx
  have hey := ev_sound hse hcur hy
  have hlen : (bC (s.data.toList.take (min s.size dl))).length = min s.size dl := by
    rw [bC_len, List.length_take, Array.length_toList]
    show min (min s.size dl) s.size = _
    omega
  have hst := run_storeCells_at P b o et (bC (s.data.toList.take (min s.size dl))) 0 ⟨cs⟩ w (hp.own _ hu.mem) (by rw [hlen]; simpa using hfit) (oneL_ok (bC_one _))
  have htk : List.take (min s.size dl) (List.map (fun b : UInt8 => Value.int IntKind.u8 (b.toNat : Int)) s.data.toList) = bC (s.data.toList.take (min s.size dl)) := by
    unfold bC; rw [List.map_take]
  have hrun : (Builtin.copy_ #[t, t'] ty #[.slice (some ⟨b, o, none⟩) dl dc, .string s]).run P w = .ok (goInt ((min s.size dl : Nat) : Int)) (w.setRow b ⟨setSeg cs o (bC (s.data.toList.take (min s.size dl)))⟩) := by
    have hmin : Nat.min s.size dl = min s.size dl := rfl
    simp [Builtin.copy_, run_underlying (und_ok hT ht), Builtin.lenOf, Builtin.firstCells, sizeOf, typeInfo, hT.info _ _ hi1, hmin]
    rw [htk, hst]
    simp [Result.andThen, setSeg, hlen]
  refine opWp_value (v := .int .i64 ((min s.size dl : Nat) : Int)) (w' := w.setRow b ⟨setSeg cs o (bC (s.data.toList.take (min s.size dl)))⟩) ?_ ⟨M, L', hp.setRow hu, rfl, rfl, rfl⟩
  rw [semAt_of (by intro c e; cases e)]
  simp only [execOp, resolve, Sem.run_bind, Sem.run_pure, Result.andThen_ok, invoke, builtin, List.map_toArray, List.map_cons, List.map_nil, hes, hey, hrun]
  rfl
/-- an array, all of whose elements are told -/
theorem qt_buildArr (hT : TOk P T) {t e len sz : Nat} {z : Value} {parts : Array (Nat × Operand)} {ps : List (Nat × Value)} (ht : und T t = some (.array len e)) (hi : sizeT T e = some sz) (hz : zeroT T t = some z)
    (hx : evParts σ δ cur parts.toList = some ps) (hseq : seqParts sz 0 ps = true) (hl : Nat.beq (cellsL z).length (ps.length * sz) = true) :
    Qt P ro ⟨d, .build t parts, ty, pos, aft, g⟩ σ δ cur M L (.agg ⟨flatParts ps⟩) :=
  qt_of_run (semAt_of (by intro c e; cases e)) fun a w hs hcur hp => by
    have hl := Nat.eq_of_beq_eq_true hl
    have hparts : (parts.map fun x => (x.1, a.eval x.2)).toList = ps := by simpa using evParts_ok hs hcur hx
    have h1 := (fill_seq sz ps 0 (cellsL z) hseq (by rw [Nat.zero_add]; omega)).1
    simp only [Nat.zero_mul, List.take_zero, List.nil_append, Nat.zero_add] at h1
    rw [List.drop_eq_nil_of_le (by omega), List.append_nil] at h1
    simp only [execOp, Instr.build, Sem.run_bind, run_zeroT hT hz, Result.andThen_ok, Sem.run_pure, run_und hT ht, run_sizeT hT hi, hparts, cellsL_eq, h1]
/-- a new slice of one-celled elements, with room alone -/
theorem st_makeRoom (hT : TOk P T) {t e by_ : Nat} {z : Value} {x y : Operand} {k k' : IntKind} (n : Nat) (ht : und T t = some (.slice e)) (hi : sizeT T e = some 1) (hz : zeroT T e = some z) (hzc : cellsL z = [z]) (hb : bytesT T e = some by_)
    (hx : ev σ δ cur x = some (.int k 0)) (hy : ev σ δ cur y = some (.int k' (n : Int))) (hroom : by_ * n ≤ 281474976710656) (hn : n < 4611686018427387904) :
    St P ro ⟨d, .makeSlice t x y, ty, pos, aft, g⟩ σ δ cur M L (fun v' M' L' => ∃ N, M = M' ∧ L' = N ++ L ∧ OS e 1 v' 0 [] N) := fun a w hs hcur hp => by
  obtain ⟨i, hi1, his⟩ := sizeT_ok hi
  obtain ⟨i2, hi2, hz2⟩ := zeroT_ok hz
  obtain ⟨i3, hi3, rfl⟩ := bytesT_ok hb
  rw [hi1] at hi2 hi3
  cases hi2
  cases hi3
  have hrun := run_make (P := P) w t e i z (und_ok hT ht) (hT.info _ _ hi1) hz2 k k' 0 n (by omega) (by omega) (by
    have h : ((i.bytes * n : Nat) : Int) ≤ 281474976710656 := by omega
    rwa [Int.natCast_mul] at h) (by omega)
  have hcells : madeCells z.cells (n * i.size) = ⟨List.replicate n z⟩ := by
    have : z.cells = #[z] := by apply Array.ext'; rw [cellsL_eq]; exact hzc
    rw [his, Nat.mul_one, this]
    exact Array.ext' (toList_madeCells_one z n)
  simp only [Int.toNat_natCast, hcells] at hrun
  refine opWp_value (v := .slice (some ⟨w.heap.size, 0, none⟩) 0 n) (w' := w.alloc (.cells ⟨List.replicate n z⟩ e)) ?_ ⟨M, _, hp.push _, [(w.heap.size, .cells ⟨List.replicate n z⟩ e (0, 0))], rfl, rfl, .inr ⟨_, n, _, rfl, rfl, Nat.zero_le _, by simp, by simp⟩⟩
  rw [semAt_of (by intro c e; cases e)]
  simp only [execOp, ev_sound hs hcur hx, ev_sound hs hcur hy, Sem.run_bind, hrun, Result.andThen_ok, Sem.run_pure]
  rfl
end
end Go.Chi
namespace Go.Proofs.YtkjljcgbnikmkaaGreatDoor
open Go.Chi
set_option maxRecDepth 10000

/-! ### the rounds -/
structure S8 where
  a : B32
  b : B32
  c : B32
  d : B32
  e : B32
  f : B32
  g : B32
  h : B32
def S8.cells (s : S8) : List Value := [wU s.a, wU s.b, wU s.c, wU s.d, wU s.e, wU s.f, wU s.g, wU s.h]
def S8.add (s t : S8) : S8 := ⟨s.a + t.a, s.b + t.b, s.c + t.c, s.d + t.d, s.e + t.e, s.f + t.f, s.g + t.g, s.h + t.h⟩
def sg0 (x : B32) : B32 := (rotr x 7 ^^^ rotr x 18) ^^^ (x >>> 3)
def sg1 (y : B32) : B32 := (rotr y 17 ^^^ rotr y 19) ^^^ (y >>> 10)
def bs1 (e : B32) : B32 := (rotr e 6 ^^^ rotr e 11) ^^^ rotr e 25
def bs0 (a : B32) : B32 := (rotr a 2 ^^^ rotr a 13) ^^^ rotr a 22
def one8 (k w : B32) (s : S8) : B32 := (((s.h + bs1 s.e) + (s.g ^^^ (s.e &&& (s.f ^^^ s.g)))) + k) + w
def two8 (s : S8) : B32 := bs0 s.a + ((s.a &&& (s.b ||| s.c)) ||| (s.b &&& s.c))
def rnd (k w : B32) (s : S8) : S8 := ⟨one8 k w s + two8 s, s.a, s.b, s.c, s.d + one8 k w s, s.e, s.f, s.g⟩
def rnds (K W : Nat → B32) : Nat → S8 → S8
  | 0, s => s
  | t + 1, s => rnd (K t) (W t) (rnds K W t s)
def Wd (x : Nat → B32) (t : Nat) : B32 := if t < 16 then x t else Wd x (t - 16) + ((sg0 (Wd x (t - 15)) + Wd x (t - 7)) + sg1 (Wd x (t - 2)))
termination_by t
decreasing_by all_goals omega
def bB (c : UInt8) : B32 := BitVec.ofNat 32 c.toNat
def wrdN (m : Nat → UInt8) (t : Nat) : Nat → B32
  | 0 => 0
  | i + 1 => (wrdN m t i <<< 8) ||| bB (m (4 * t + i))
def wrd (m : Nat → UInt8) (t : Nat) : B32 := wrdN m t 4
def kL : List Nat := [1116352408, 1899447441, 3049323471, 3921009573, 961987163, 1508970993, 2453635748, 2870763221, 3624381080, 310598401, 607225278, 1426881987, 1925078388, 2162078206, 2614888103, 3248222580, 3835390401, 4022224774, 264347078, 604807628, 770255983, 1249150122, 1555081692, 1996064986, 2554220882, 2821834349, 2952996808, 3210313671, 3336571891, 3584528711, 113926993, 338241895, 666307205, 773529912, 1294757372, 1396182291, 1695183700, 1986661051, 2177026350, 2456956037, 2730485921, 2820302411, 3259730800, 3345764771, 3516065817, 3600352804, 4094571909, 275423344, 430227734, 506948616, 659060556, 883997877, 958139571, 1322822218, 1537002063, 1747873779, 1955562222, 2024104815, 2227730452, 2361852424, 2428436474, 2756734187, 3204031479, 3329325298]
def kT (t : Nat) : B32 := BitVec.ofNat 32 (kL.getD t 0)
def takeS (s : S8) (m : Nat → UInt8) : S8 := s.add (rnds kT (Wd (wrd m)) 64 s)
/-- the table of the rounds' numbers -/
def KM (M : Mem) : Prop := Cells M [] 0 0 (fc (fun t => wU (kT t)) 64)
theorem KM.le {M M' : Mem} (hm : M.le M') (h : KM M) : KM M' := Cells.le hm h

/-! ### cells -/
def wB (b : UInt8) : Value := .int .u8 (b.toNat : Int)
def shC (s : S8) (m : Nat → UInt8) (n : Nat) : List Value := s.cells ++ (fc (fun i => wB (m i)) 64 ++ [.int .i64 (n : Int)])
abbrev shB (b : Nat) (s : S8) (m : Nat → UInt8) (n : Nat) : Nat × Obj := (b, .cells ⟨shC s m n⟩ 157 (0, 0))
theorem sh_len (s : S8) (m : Nat → UInt8) (n : Nat) : (shC s m n).length = 73 := by simp [shC, S8.cells, fc]
theorem sh_wait (s : S8) (m : Nat → UInt8) (n : Nat) {o i : Nat} (ho : o = 8 + i) (hi : i < 64) : (shC s m n)[o]? = some (wB (m i)) := by
  subst ho
  unfold shC
  rw [List.getElem?_append_right (by simp [S8.cells]), List.getElem?_append_left (by rw [fc_len]; simp [S8.cells]; omega)]
  have : 8 + i - s.cells.length = i := by simp [S8.cells]
  rw [this, fc_get hi]
theorem sh_n (s : S8) (m : Nat → UInt8) (n : Nat) : (shC s m n)[72]? = some (.int .i64 (n : Int)) := by
  unfold shC
  rw [List.getElem?_append_right (by simp [S8.cells]), List.getElem?_append_right (by rw [fc_len]; simp [S8.cells])]
  simp [S8.cells, fc_len]
def wC (f : Nat → B32) : List Value := fc (fun i => wU (f i)) 16
theorem wC_get {f : Nat → B32} {j : Nat} (h : j < 16) : ldE tt 153 (wC f) (0 + j * 1) = some (wU (f j)) := ldE_at rfl (by rw [Nat.zero_add, Nat.mul_one]; exact fc_get h)
theorem wC_put {f : Nat → B32} {j : Nat} {z : Int} (w : B32) (h : j < 16) (hz : z = U w) : setE (wC f) (0 + j * 1) (cellsL (.int .u32 z)) = some (wC (fput f j w)) := by
  subst hz
  rw [Nat.zero_add, Nat.mul_one]
  refine (fc_put (wU w) h).trans ?_
  unfold wC
  congr 1
  exact fc_ext fun i _ => by
    by_cases e : i = j
    · subst e; rw [fput_same, fput_same]
    · rw [fput_ne _ _ e, fput_ne _ _ e]
theorem u_shr3 (x : B32) : ishr .u32 (U x) 3 = U (x >>> 3) := u_shr x (n := 3) (by decide)
theorem u_shr10 (x : B32) : ishr .u32 (U x) 10 = U (x >>> 10) := u_shr x (n := 10) (by decide)
theorem u_byte (x : B32) (c : UInt8) : ior .u32 (ishl .u32 (U x) 8) (IntKind.u32.wrap (c.toNat : Int)) = U ((x <<< 8) ||| bB c) := by
  have h1 : ishl .u32 (U x) 8 = U (x <<< 8) := u_shl x (n := 8) (by decide)
  have h2 : IntKind.u32.wrap (c.toNat : Int) = U (bB c) := by
    have := c.toNat_lt
    rw [u32_wrap]; unfold U bB
    rw [BitVec.toNat_ofNat]; omega
  rw [h1, h2, u_or]
theorem tm16 (n : Nat) : ((n : Int)).tmod 16 = ((n % 16 : Nat) : Int) := by
  rw [Int.tmod_eq_emod_of_nonneg (by omega)]; omega
theorem tm16w (n c : Nat) (h : n + c < 1000) : (IntKind.i64.wrap ((n : Int) + (c : Int))).tmod 16 = (((n + c) % 16 : Nat) : Int) := by
  have : (n : Int) + (c : Int) = ((n + c : Nat) : Int) := by omega
  rw [this, wrap64_nat (by omega), tm16]
/-- the circle of the last sixteen words -/
def Circ (x : Nat → B32) (f : Nat → B32) (m : Nat) : Prop := ∀ i, i < m → m ≤ i + 16 → f (i % 16) = Wd x i
theorem Circ.next {x f : Nat → B32} {t : Nat} (h : Circ x f t) : Circ x (fput f (t % 16) (Wd x t)) (t + 1) := fun i h1 h2 => by
  by_cases e : i = t
  · subst e; rw [fput_same]
  · rw [fput_ne _ _ (by omega)]
    exact h i (by omega) (by omega)
/-- the state's words by number -/
def S8.get (s : S8) : Nat → B32
  | 0 => s.a | 1 => s.b | 2 => s.c | 3 => s.d | 4 => s.e | 5 => s.f | 6 => s.g | _ => s.h
theorem S8.cells_fc (s : S8) : s.cells = fc (fun i => wU (s.get i)) 8 := rfl
def stC8 (q : Nat → B32) (r : List Value) : List Value := fc (fun i => wU (q i)) 8 ++ r
theorem st8_get {q : Nat → B32} {r : List Value} {j : Nat} (h : j < 8) : ldE tt 153 (stC8 q r) (0 + 0 + j * 1) = some (wU (q j)) := ldE_at rfl (by
  rw [Nat.zero_add, Nat.mul_one, stC8, List.getElem?_append_left (by rw [fc_len]; exact h)]; exact fc_get h)
theorem st8_put {q : Nat → B32} {r : List Value} {j : Nat} {z : Int} (w : B32) (h : j < 8) (hz : z = U w) : setE (stC8 q r) (0 + 0 + j * 1) (cellsL (.int .u32 z)) = some (stC8 (fput q j w) r) := by
  subst hz
  have h1 : j < (stC8 q r).length := by rw [stC8, List.length_append, fc_len]; omega
  rw [Nat.zero_add, Nat.mul_one, setE_of (by show j + 1 ≤ _; omega)]
  congr 1
  show setSeg (stC8 q r) j [wU w] = _
  rw [setSeg_one h1, stC8, List.set_append_left _ _ (by rw [fc_len]; exact h), fc_set]
  unfold stC8
  congr 1
  exact fc_ext fun i _ => by
    by_cases e : i = j
    · subst e; rw [fput_same, fput_same]
    · rw [fput_ne _ _ e, fput_ne _ _ e]
end Go.Proofs.YtkjljcgbnikmkaaGreatDoor
namespace Go.Proofs.YtkjljcgbnikmkaaGreatDoor
open Go.Chi
set_option maxRecDepth 10000

abbrev wBk (b : Nat) (f : Nat → B32) : Nat × Obj := (b, .cells ⟨wC f⟩ 165 (0, 0))
abbrev pt (b : Nat) : Value := .pointer (some ⟨b, 0, none⟩)
abbrev iv (n : Nat) : Value := .int .i64 (n : Int)
set_option maxHeartbeats 4000000 in
theorem take_ok (M : Mem) (L : HL) (b : Nat) (s : S8) (m : Nat → UInt8) (n : Nat) (hk : KM M) : Tr Tryz.prog 120 [.pointer (some ⟨b, 0, none⟩)] M (shB b s m n :: L) (fun _ M' L' => M = M' ∧ L' = shB b (takeS s m) m n :: L) := by
  refine Tr.intro 216 Tryz.func120 rfl rfl Tryz.call120 rfl ?_
  intro C hC hro
  repeat (first | with_reducible (first | refine zS ?_ | refine zR ?_ | refine zN ?_ | refine zK ?_ | refine zB ?_ | refine zI ?_) | refine zE rfl ?_ | refine wq ?_ | refine wg ?_ | refine ws ?_ | refine wb fun _ => ?_ | refine wa fun _ => ?_ | refine wl fun _ => ?_)
  rename_i bw
  refine run_loopN (fun j σ1 M1 L1 => j ≤ 16 ∧ M = M1 ∧ ∃ f : Nat → B32, (∀ i, i < j → f i = wrd m i) ∧ (∀ i, j ≤ i → f i = 0) ∧ L1 = wBk bw f :: shB b s m n :: L ∧ σ1 = [(21, iv j), (2, pt bw), (0, pt b)]) 16 [(21, iv 0), (2, pt bw), (0, pt b)] ?_ ⟨Nat.zero_le _, rfl, fun _ => 0, (fun i hi => absurd hi (Nat.not_lt_zero _)), (fun _ _ => rfl), rfl, rfl⟩ (fun j _ _ _ h => h.1) ?_
  · exact ⟨rfl, rfl, rfl, trivial⟩
  rintro j _ _ _ ⟨hj, rfl, f, hf1, hf2, rfl, rfl⟩ hnext
  repeat (first | with_reducible (first | refine zS ?_ | refine zR ?_ | refine zN ?_ | refine zK ?_ | refine zB ?_ | refine zI ?_) | refine zE rfl ?_ | refine wq ?_ | refine wg ?_ | refine ws ?_ | refine wb fun _ => ?_ | refine wa fun _ => ?_ | refine wl fun _ => ?_)
  refine run_cond rfl (fun h => ?_) (fun h => ?_)
  · have hlt : j < 16 := by simp at h; omega
    have e1 : IntKind.i64.wrap (4 * (j : Int)) = ((4 * j : Nat) : Int) := by
      have : (4 * (j : Int)) = ((4 * j : Nat) : Int) := by omega
      rw [this]; exact wrap64_nat (by omega)
    have e2 : IntKind.i64.wrap (((4 * j : Nat) : Int) + 4) = ((4 * j + 4 : Nat) : Int) := wrap64_nat (n := 4 * j + 4) (by omega)
    repeat (first | with_reducible (first | refine zS ?_ | refine zR ?_ | refine zN ?_ | refine zK ?_ | refine zB ?_ | refine zI ?_) | refine zE rfl ?_ | refine wq ?_ | refine wg ?_ | refine ws ?_ | refine wb fun _ => ?_ | refine wa fun _ => ?_ | refine wl fun _ => ?_)
    refine runL_as 28 (iv (4 * j)) rfl (congrArg (Value.int .i64) e1) ?_
    refine runL_as 31 (iv (4 * j + 4)) rfl (congrArg (Value.int .i64) (by rw [e1, e2])) ?_
    refine rq (qt_sliceArr2 tok rfl rfl rfl rfl rfl (fun _ => by omega)) ?_
    repeat (first | with_reducible (first | refine zS ?_ | refine zR ?_ | refine zN ?_ | refine zK ?_ | refine zB ?_ | refine zI ?_) | refine zE rfl ?_ | refine wq ?_ | refine wg ?_ | refine ws ?_ | refine wb fun _ => ?_ | refine wa fun _ => ?_ | refine wl fun _ => ?_)
    refine run_loopN (fun i σ1 M1 L1 => i ≤ 4 ∧ M = M1 ∧ ∃ g : Nat → B32, g j = wrdN m j i ∧ (∀ x, x ≠ j → g x = f x) ∧ L1 = wBk bw g :: shB b s m n :: L ∧ σ1 = [(34, iv i), (33, iv (4 * j + 4 - 4 * j)), (32, .slice (some ⟨b, 0 + 8 + 4 * j * 1, none⟩) (4 * j + 4 - 4 * j) (64 - 4 * j)), (3, iv j), (21, iv j), (2, pt bw), (0, pt b)]) 4 [(34, iv 0), (33, iv (4 * j + 4 - 4 * j)), (32, .slice (some ⟨b, 0 + 8 + 4 * j * 1, none⟩) (4 * j + 4 - 4 * j) (64 - 4 * j)), (3, iv j), (21, iv j), (2, pt bw), (0, pt b)] ?_ ⟨Nat.zero_le _, rfl, f, hf2 j (Nat.le_refl _), (fun _ _ => rfl), rfl, rfl⟩ (fun j _ _ _ h => h.1) ?_
    · exact ⟨rfl, rfl, rfl, rfl, rfl, rfl, rfl, trivial⟩
    rintro i _ _ _ ⟨hi, rfl, g, hg1, hg2, rfl, rfl⟩ hnext2
    repeat (first | with_reducible (first | refine zS ?_ | refine zR ?_ | refine zN ?_ | refine zK ?_ | refine zB ?_ | refine zI ?_) | refine zE rfl ?_ | refine wq ?_ | refine wg ?_ | refine ws ?_ | refine wb fun _ => ?_ | refine wa fun _ => ?_ | refine wl fun _ => ?_)
    refine run_cond rfl (fun h2 => ?_) (fun h2 => ?_)
    · have hlt2 : i < 4 := by simp at h2; omega
      repeat (first | with_reducible (first | refine zS ?_ | refine zR ?_ | refine zN ?_ | refine zK ?_ | refine zB ?_ | refine zI ?_) | refine zE rfl ?_ | refine wq ?_ | refine wg ?_ | refine ws ?_ | refine wb fun _ => ?_ | refine wa fun _ => ?_ | refine wl fun _ => ?_)
      refine rq (qt_indexN tok rfl rfl rfl rfl (fun _ => by omega)) ?_
      refine rq (qt_ld tok rfl (by (repeat (first | with_reducible apply List.mem_cons_self | with_reducible assumption | with_reducible apply List.mem_cons_of_mem | with_reducible apply List.mem_append_right))) (ldE_at rfl (sh_wait s m n (i := 4 * j + i) (by omega) (by omega)))) ?_
      repeat (first | with_reducible (first | refine zS ?_ | refine zR ?_ | refine zN ?_ | refine zK ?_ | refine zB ?_ | refine zI ?_) | refine zE rfl ?_ | refine wq ?_ | refine wg ?_ | refine ws ?_ | refine wb fun _ => ?_ | refine wa fun _ => ?_ | refine wl fun _ => ?_)
      refine rq (qt_indexA tok rfl rfl rfl rfl (fun _ => hlt)) ?_
      refine rq (qt_ld tok rfl (by (repeat (first | with_reducible apply List.mem_cons_self | with_reducible assumption | with_reducible apply List.mem_cons_of_mem | with_reducible apply List.mem_append_right))) (wC_get hlt)) ?_
      refine rq (qt_shl rfl rfl (fun _ => by decide)) ?_
      repeat (first | with_reducible (first | refine zS ?_ | refine zR ?_ | refine zN ?_ | refine zK ?_ | refine zB ?_ | refine zI ?_) | refine zE rfl ?_ | refine wq ?_ | refine wg ?_ | refine ws ?_ | refine wb fun _ => ?_ | refine wa fun _ => ?_ | refine wl fun _ => ?_)
      refine rq (qt_indexA tok rfl rfl rfl rfl (fun _ => hlt)) ?_
      refine ws ?_ rfl rfl rfl rfl rfl (by (repeat (first | with_reducible apply Upd.here | with_reducible apply Upd.there | with_reducible apply Upd.append_left))) (wC_put ((g j <<< 8) ||| bB (m (4 * j + i))) hlt (u_byte _ _))
      repeat (first | with_reducible (first | refine zS ?_ | refine zR ?_ | refine zN ?_ | refine zK ?_ | refine zB ?_ | refine zI ?_) | refine zE rfl ?_ | refine wq ?_ | refine wg ?_ | refine ws ?_ | refine wb fun _ => ?_ | refine wa fun _ => ?_ | refine wl fun _ => ?_)
      refine run_sub' (hnext2 _ _ _ ⟨hlt2, rfl, _, ?_, ?_, rfl, rfl⟩) ⟨lk_succ rfl (by omega), rfl, rfl, rfl, rfl, rfl, rfl, trivial⟩
      · rw [fput_same, hg1]; rfl
      · intro x hx
        rw [fput_ne _ _ hx]; exact hg2 x hx
    · have : i = 4 := by simp at h2; omega
      subst this
      repeat (first | with_reducible (first | refine zS ?_ | refine zR ?_ | refine zN ?_ | refine zK ?_ | refine zB ?_ | refine zI ?_) | refine zE rfl ?_ | refine wq ?_ | refine wg ?_ | refine ws ?_ | refine wb fun _ => ?_ | refine wa fun _ => ?_ | refine wl fun _ => ?_)
      refine run_sub' (hnext _ _ _ ⟨hlt, rfl, g, ?_, ?_, rfl, rfl⟩) ⟨lk_succ rfl (by omega), rfl, rfl, trivial⟩
      · intro x hx
        by_cases e : x = j
        · subst e; exact hg1
        · rw [hg2 x e]; exact hf1 x (by omega)
      · intro x hx
        rw [hg2 x (by omega)]; exact hf2 x (by omega)
  have : j = 16 := by simp at h; omega
  subst this
  clear hnext hf2
  repeat (first | with_reducible (first | refine zS ?_ | refine zR ?_ | refine zN ?_ | refine zK ?_ | refine zB ?_ | refine zI ?_) | refine zE rfl ?_ | refine wq ?_ | refine wg ?_ | refine ws ?_ | refine wb fun _ => ?_ | refine wa fun _ => ?_ | refine wl fun _ => ?_ | refine prn_start mixed ?_ | refine prn_end (by decide +kernel) ?_ | refine dq ?_ | refine dg ?_ | (refine prn_e0 rfl (sst tok rfl rfl rfl rfl rfl) (by decide +kernel) ?_; rintro _ _ _ ⟨rfl, rfl, rfl⟩) | ((first | refine pe rfl (st_box rfl) ?_ | refine pe rfl (st_alloc tok rfl) ?_ | refine pe rfl (st_buildSlice tok rfl rfl rfl rfl rfl rfl rfl) ?_); rintro _ _ _ ⟨_, rfl, rfl, rfl⟩) | (refine prn_o0 rfl (sst tok rfl rfl rfl rfl rfl) (by decide +kernel) ?_; rintro _ _ _ ⟨rfl, rfl, rfl⟩; refine ⟨by (repeat (first | exact trivial | refine And.intro (pend_q rfl rfl rfl (qt_pev tok rfl)) ?_ | refine And.intro (pend_q rfl rfl rfl (ql tok rfl)) ?_)), ?_⟩) | ((first | refine po rfl (st_box rfl) ?_ | refine po rfl (st_alloc tok rfl) ?_ | refine po rfl (st_buildSlice tok rfl rfl rfl rfl rfl rfl rfl) ?_); rintro _ _ _ ⟨_, rfl, rfl, rfl⟩; refine ⟨by (repeat (first | exact trivial | refine And.intro (pend_q rfl rfl rfl (qt_pev tok rfl)) ?_ | refine And.intro (pend_q rfl rfl rfl (ql tok rfl)) ?_)), ?_⟩) | (refine pe rfl (qt_pev tok rfl) ?_; rintro _ _ _ ⟨rfl, rfl, rfl⟩) | refine pq rfl (qt_indexC tok rfl rfl rfl rfl (fun _ => by decide)) ?_)
  have hc0 : Circ (wrd m) f 16 := fun i h1 h2 => by
    rw [Wd, if_pos h1, Nat.mod_eq_of_lt h1]; exact hf1 i h1
  let σs := fun (t : Nat) (r : S8) => [(89, iv t), (13, wU r.h), (12, wU r.g), (11, wU r.f), (10, wU r.e), (9, wU r.d), (8, wU r.c), (7, wU r.b), (6, wU r.a), (2, pt bw), (0, pt b)]
  refine run_loopN (fun t σ1 M1 L1 => t ≤ 64 ∧ M = M1 ∧ ∃ g : Nat → B32, Circ (wrd m) g (max t 16) ∧ L1 = wBk bw g :: shB b s m n :: L ∧ σ1 = σs t (rnds kT (Wd (wrd m)) t s)) 64 (σs 0 s) ?_ ⟨Nat.zero_le _, rfl, f, hc0, rfl, rfl⟩ (fun j _ _ _ h => h.1) ?_
  · exact ⟨rfl, rfl, rfl, rfl, rfl, rfl, rfl, rfl, rfl, rfl, rfl, trivial⟩
  rintro t _ _ _ ⟨ht, rfl, g, hg, rfl, rfl⟩ hnext
  simp only [σs] at hnext ⊢
  generalize hr : rnds kT (Wd (wrd m)) t s = r
  repeat (first | with_reducible (first | refine zS ?_ | refine zR ?_ | refine zN ?_ | refine zK ?_ | refine zB ?_ | refine zI ?_) | refine zE rfl ?_ | refine wq ?_ | refine wg ?_ | refine ws ?_ | refine wb fun _ => ?_ | refine wa fun _ => ?_ | refine wl fun _ => ?_)
  refine run_cond rfl (fun h => ?_) (fun h => ?_)
  · have hlt : t < 64 := by simp at h; omega
    refine run_skip ?_
    refine run_seq ?_
    refine run_block ?_
    refine run_seq ?_
    (refine run_region ?_; (repeat (first | refine wq ?_ | refine wg ?_ | refine ws ?_ | refine wb fun _ => ?_ | refine wa fun _ => ?_ | refine wl fun _ => ?_)); refine runL_nil ?_)
    refine run_seq ?_
    refine run_cut (fun σ' M' L' => M = M' ∧ ∃ g : Nat → B32, Circ (wrd m) g (max (t + 1) 16) ∧ g (t % 16) = Wd (wrd m) t ∧ L' = wBk bw g :: shB b s m n :: L ∧ σ' = (14, iv t) :: σs t r) ?_ ?_
    rotate_left
    · intro hmid
      repeat (first | with_reducible (first | refine zS ?_ | refine zR ?_ | refine zN ?_ | refine zK ?_ | refine zB ?_ | refine zI ?_) | refine zE rfl ?_ | refine wq ?_ | refine wg ?_ | refine ws ?_ | refine wb fun _ => ?_ | refine wa fun _ => ?_ | refine wl fun _ => ?_)
      refine run_cond rfl (fun h2 => ?_) (fun h2 => ?_)
      · have h16 : 16 ≤ t := by simp at h2; omega
        have hm : max t 16 = t := by omega
        rw [hm] at hg
        have r1 := hg (t - 15) (by omega) (by omega)
        have r2 := hg (t - 2) (by omega) (by omega)
        have r7 := hg (t - 7) (by omega) (by omega)
        have r16 := hg (t - 16) (by omega) (by omega)
        rw [show (t - 15) % 16 = (t + 1) % 16 by omega] at r1
        rw [show (t - 2) % 16 = (t + 14) % 16 by omega] at r2
        rw [show (t - 7) % 16 = (t + 9) % 16 by omega] at r7
        rw [show (t - 16) % 16 = t % 16 by omega] at r16
        refine run_seq ?_
        refine prn_start mixed ?_
        repeat (first | refine dq ?_ | refine dg ?_ | (refine prn_e0 rfl (sst tok rfl rfl rfl rfl rfl) (by decide +kernel) ?_; rintro _ _ _ ⟨rfl, rfl, rfl⟩) | ((first | refine pe rfl (st_box rfl) ?_ | refine pe rfl (st_alloc tok rfl) ?_ | refine pe rfl (st_buildSlice tok rfl rfl rfl rfl rfl rfl rfl) ?_); rintro _ _ _ ⟨_, rfl, rfl, rfl⟩) | (refine prn_o0 rfl (sst tok rfl rfl rfl rfl rfl) (by decide +kernel) ?_; rintro _ _ _ ⟨rfl, rfl, rfl⟩; refine ⟨by (repeat (first | exact trivial | refine And.intro (pend_q rfl rfl rfl (qt_pev tok rfl)) ?_ | refine And.intro (pend_q rfl rfl rfl (ql tok rfl)) ?_)), ?_⟩) | ((first | refine po rfl (st_box rfl) ?_ | refine po rfl (st_alloc tok rfl) ?_ | refine po rfl (st_buildSlice tok rfl rfl rfl rfl rfl rfl rfl) ?_); rintro _ _ _ ⟨_, rfl, rfl, rfl⟩; refine ⟨by (repeat (first | exact trivial | refine And.intro (pend_q rfl rfl rfl (qt_pev tok rfl)) ?_ | refine And.intro (pend_q rfl rfl rfl (ql tok rfl)) ?_)), ?_⟩) | (refine pe rfl (qt_pev tok rfl) ?_; rintro _ _ _ ⟨rfl, rfl, rfl⟩))
        refine pq rfl (Qt.as (v' := iv ((t + 1) % 16)) (qt_rem rfl rfl (fun _ => by decide)) (congrArg (Value.int .i64) (tm16w t 1 (by omega)))) ?_
        refine pq rfl (qt_indexA tok rfl rfl rfl rfl (fun _ => by omega)) ?_
        refine pq rfl (qt_ld tok rfl (by (repeat (first | with_reducible apply List.mem_cons_self | with_reducible assumption | with_reducible apply List.mem_cons_of_mem | with_reducible apply List.mem_append_right))) (wC_get (by omega))) ?_
        repeat (first | refine dq ?_ | refine dg ?_ | (refine prn_e0 rfl (sst tok rfl rfl rfl rfl rfl) (by decide +kernel) ?_; rintro _ _ _ ⟨rfl, rfl, rfl⟩) | ((first | refine pe rfl (st_box rfl) ?_ | refine pe rfl (st_alloc tok rfl) ?_ | refine pe rfl (st_buildSlice tok rfl rfl rfl rfl rfl rfl rfl) ?_); rintro _ _ _ ⟨_, rfl, rfl, rfl⟩) | (refine prn_o0 rfl (sst tok rfl rfl rfl rfl rfl) (by decide +kernel) ?_; rintro _ _ _ ⟨rfl, rfl, rfl⟩; refine ⟨by (repeat (first | exact trivial | refine And.intro (pend_q rfl rfl rfl (qt_pev tok rfl)) ?_ | refine And.intro (pend_q rfl rfl rfl (ql tok rfl)) ?_)), ?_⟩) | ((first | refine po rfl (st_box rfl) ?_ | refine po rfl (st_alloc tok rfl) ?_ | refine po rfl (st_buildSlice tok rfl rfl rfl rfl rfl rfl rfl) ?_); rintro _ _ _ ⟨_, rfl, rfl, rfl⟩; refine ⟨by (repeat (first | exact trivial | refine And.intro (pend_q rfl rfl rfl (qt_pev tok rfl)) ?_ | refine And.intro (pend_q rfl rfl rfl (ql tok rfl)) ?_)), ?_⟩) | (refine pe rfl (qt_pev tok rfl) ?_; rintro _ _ _ ⟨rfl, rfl, rfl⟩))
        refine pq rfl (Qt.as (v' := iv ((t + 14) % 16)) (qt_rem rfl rfl (fun _ => by decide)) (congrArg (Value.int .i64) (tm16w t 14 (by omega)))) ?_
        refine pq rfl (qt_indexA tok rfl rfl rfl rfl (fun _ => by omega)) ?_
        refine pq rfl (qt_ld tok rfl (by (repeat (first | with_reducible apply List.mem_cons_self | with_reducible assumption | with_reducible apply List.mem_cons_of_mem | with_reducible apply List.mem_append_right))) (wC_get (by omega))) ?_
        repeat (first | refine dq ?_ | refine dg ?_ | (refine prn_e0 rfl (sst tok rfl rfl rfl rfl rfl) (by decide +kernel) ?_; rintro _ _ _ ⟨rfl, rfl, rfl⟩) | ((first | refine pe rfl (st_box rfl) ?_ | refine pe rfl (st_alloc tok rfl) ?_ | refine pe rfl (st_buildSlice tok rfl rfl rfl rfl rfl rfl rfl) ?_); rintro _ _ _ ⟨_, rfl, rfl, rfl⟩) | (refine prn_o0 rfl (sst tok rfl rfl rfl rfl rfl) (by decide +kernel) ?_; rintro _ _ _ ⟨rfl, rfl, rfl⟩; refine ⟨by (repeat (first | exact trivial | refine And.intro (pend_q rfl rfl rfl (qt_pev tok rfl)) ?_ | refine And.intro (pend_q rfl rfl rfl (ql tok rfl)) ?_)), ?_⟩) | ((first | refine po rfl (st_box rfl) ?_ | refine po rfl (st_alloc tok rfl) ?_ | refine po rfl (st_buildSlice tok rfl rfl rfl rfl rfl rfl rfl) ?_); rintro _ _ _ ⟨_, rfl, rfl, rfl⟩; refine ⟨by (repeat (first | exact trivial | refine And.intro (pend_q rfl rfl rfl (qt_pev tok rfl)) ?_ | refine And.intro (pend_q rfl rfl rfl (ql tok rfl)) ?_)), ?_⟩) | (refine pe rfl (qt_pev tok rfl) ?_; rintro _ _ _ ⟨rfl, rfl, rfl⟩))
        refine prn_end (by decide +kernel) ?_
        rw [r1, r2]
        refine prn_start mixed ?_
        repeat (first | refine dq ?_ | refine dg ?_ | (refine prn_e0 rfl (sst tok rfl rfl rfl rfl rfl) (by decide +kernel) ?_; rintro _ _ _ ⟨rfl, rfl, rfl⟩) | ((first | refine pe rfl (st_box rfl) ?_ | refine pe rfl (st_alloc tok rfl) ?_ | refine pe rfl (st_buildSlice tok rfl rfl rfl rfl rfl rfl rfl) ?_); rintro _ _ _ ⟨_, rfl, rfl, rfl⟩) | (refine prn_o0 rfl (sst tok rfl rfl rfl rfl rfl) (by decide +kernel) ?_; rintro _ _ _ ⟨rfl, rfl, rfl⟩; refine ⟨by (repeat (first | exact trivial | refine And.intro (pend_q rfl rfl rfl (qt_pev tok rfl)) ?_ | refine And.intro (pend_q rfl rfl rfl (ql tok rfl)) ?_)), ?_⟩) | ((first | refine po rfl (st_box rfl) ?_ | refine po rfl (st_alloc tok rfl) ?_ | refine po rfl (st_buildSlice tok rfl rfl rfl rfl rfl rfl rfl) ?_); rintro _ _ _ ⟨_, rfl, rfl, rfl⟩; refine ⟨by (repeat (first | exact trivial | refine And.intro (pend_q rfl rfl rfl (qt_pev tok rfl)) ?_ | refine And.intro (pend_q rfl rfl rfl (ql tok rfl)) ?_)), ?_⟩) | (refine pe rfl (qt_pev tok rfl) ?_; rintro _ _ _ ⟨rfl, rfl, rfl⟩))
        refine pq rfl (Qt.as (v' := iv (t % 16)) (qt_rem rfl rfl (fun _ => by decide)) (congrArg (Value.int .i64) (tm16 t))) ?_
        refine pq rfl (qt_indexA tok rfl rfl rfl rfl (fun _ => by omega)) ?_
        refine pq rfl (qt_ld tok rfl (by (repeat (first | with_reducible apply List.mem_cons_self | with_reducible assumption | with_reducible apply List.mem_cons_of_mem | with_reducible apply List.mem_append_right))) (wC_get (by omega))) ?_
        repeat (first | refine dq ?_ | refine dg ?_ | (refine prn_e0 rfl (sst tok rfl rfl rfl rfl rfl) (by decide +kernel) ?_; rintro _ _ _ ⟨rfl, rfl, rfl⟩) | ((first | refine pe rfl (st_box rfl) ?_ | refine pe rfl (st_alloc tok rfl) ?_ | refine pe rfl (st_buildSlice tok rfl rfl rfl rfl rfl rfl rfl) ?_); rintro _ _ _ ⟨_, rfl, rfl, rfl⟩) | (refine prn_o0 rfl (sst tok rfl rfl rfl rfl rfl) (by decide +kernel) ?_; rintro _ _ _ ⟨rfl, rfl, rfl⟩; refine ⟨by (repeat (first | exact trivial | refine And.intro (pend_q rfl rfl rfl (qt_pev tok rfl)) ?_ | refine And.intro (pend_q rfl rfl rfl (ql tok rfl)) ?_)), ?_⟩) | ((first | refine po rfl (st_box rfl) ?_ | refine po rfl (st_alloc tok rfl) ?_ | refine po rfl (st_buildSlice tok rfl rfl rfl rfl rfl rfl rfl) ?_); rintro _ _ _ ⟨_, rfl, rfl, rfl⟩; refine ⟨by (repeat (first | exact trivial | refine And.intro (pend_q rfl rfl rfl (qt_pev tok rfl)) ?_ | refine And.intro (pend_q rfl rfl rfl (ql tok rfl)) ?_)), ?_⟩) | (refine pe rfl (qt_pev tok rfl) ?_; rintro _ _ _ ⟨rfl, rfl, rfl⟩))
        refine pq rfl (qt_callF rfl (fun _ => right_ok _ _ _ 7 (by decide) (by decide))) ?_
        repeat (first | refine dq ?_ | refine dg ?_ | (refine prn_e0 rfl (sst tok rfl rfl rfl rfl rfl) (by decide +kernel) ?_; rintro _ _ _ ⟨rfl, rfl, rfl⟩) | ((first | refine pe rfl (st_box rfl) ?_ | refine pe rfl (st_alloc tok rfl) ?_ | refine pe rfl (st_buildSlice tok rfl rfl rfl rfl rfl rfl rfl) ?_); rintro _ _ _ ⟨_, rfl, rfl, rfl⟩) | (refine prn_o0 rfl (sst tok rfl rfl rfl rfl rfl) (by decide +kernel) ?_; rintro _ _ _ ⟨rfl, rfl, rfl⟩; refine ⟨by (repeat (first | exact trivial | refine And.intro (pend_q rfl rfl rfl (qt_pev tok rfl)) ?_ | refine And.intro (pend_q rfl rfl rfl (ql tok rfl)) ?_)), ?_⟩) | ((first | refine po rfl (st_box rfl) ?_ | refine po rfl (st_alloc tok rfl) ?_ | refine po rfl (st_buildSlice tok rfl rfl rfl rfl rfl rfl rfl) ?_); rintro _ _ _ ⟨_, rfl, rfl, rfl⟩; refine ⟨by (repeat (first | exact trivial | refine And.intro (pend_q rfl rfl rfl (qt_pev tok rfl)) ?_ | refine And.intro (pend_q rfl rfl rfl (ql tok rfl)) ?_)), ?_⟩) | (refine pe rfl (qt_pev tok rfl) ?_; rintro _ _ _ ⟨rfl, rfl, rfl⟩))
        refine pq rfl (qt_callF rfl (fun _ => right_ok _ _ _ 18 (by decide) (by decide))) ?_
        repeat (first | refine dq ?_ | refine dg ?_ | (refine prn_e0 rfl (sst tok rfl rfl rfl rfl rfl) (by decide +kernel) ?_; rintro _ _ _ ⟨rfl, rfl, rfl⟩) | ((first | refine pe rfl (st_box rfl) ?_ | refine pe rfl (st_alloc tok rfl) ?_ | refine pe rfl (st_buildSlice tok rfl rfl rfl rfl rfl rfl rfl) ?_); rintro _ _ _ ⟨_, rfl, rfl, rfl⟩) | (refine prn_o0 rfl (sst tok rfl rfl rfl rfl rfl) (by decide +kernel) ?_; rintro _ _ _ ⟨rfl, rfl, rfl⟩; refine ⟨by (repeat (first | exact trivial | refine And.intro (pend_q rfl rfl rfl (qt_pev tok rfl)) ?_ | refine And.intro (pend_q rfl rfl rfl (ql tok rfl)) ?_)), ?_⟩) | ((first | refine po rfl (st_box rfl) ?_ | refine po rfl (st_alloc tok rfl) ?_ | refine po rfl (st_buildSlice tok rfl rfl rfl rfl rfl rfl rfl) ?_); rintro _ _ _ ⟨_, rfl, rfl, rfl⟩; refine ⟨by (repeat (first | exact trivial | refine And.intro (pend_q rfl rfl rfl (qt_pev tok rfl)) ?_ | refine And.intro (pend_q rfl rfl rfl (ql tok rfl)) ?_)), ?_⟩) | (refine pe rfl (qt_pev tok rfl) ?_; rintro _ _ _ ⟨rfl, rfl, rfl⟩))
        refine pq rfl (qt_shr rfl rfl (fun _ => by decide)) ?_
        repeat (first | refine dq ?_ | refine dg ?_ | (refine prn_e0 rfl (sst tok rfl rfl rfl rfl rfl) (by decide +kernel) ?_; rintro _ _ _ ⟨rfl, rfl, rfl⟩) | ((first | refine pe rfl (st_box rfl) ?_ | refine pe rfl (st_alloc tok rfl) ?_ | refine pe rfl (st_buildSlice tok rfl rfl rfl rfl rfl rfl rfl) ?_); rintro _ _ _ ⟨_, rfl, rfl, rfl⟩) | (refine prn_o0 rfl (sst tok rfl rfl rfl rfl rfl) (by decide +kernel) ?_; rintro _ _ _ ⟨rfl, rfl, rfl⟩; refine ⟨by (repeat (first | exact trivial | refine And.intro (pend_q rfl rfl rfl (qt_pev tok rfl)) ?_ | refine And.intro (pend_q rfl rfl rfl (ql tok rfl)) ?_)), ?_⟩) | ((first | refine po rfl (st_box rfl) ?_ | refine po rfl (st_alloc tok rfl) ?_ | refine po rfl (st_buildSlice tok rfl rfl rfl rfl rfl rfl rfl) ?_); rintro _ _ _ ⟨_, rfl, rfl, rfl⟩; refine ⟨by (repeat (first | exact trivial | refine And.intro (pend_q rfl rfl rfl (qt_pev tok rfl)) ?_ | refine And.intro (pend_q rfl rfl rfl (ql tok rfl)) ?_)), ?_⟩) | (refine pe rfl (qt_pev tok rfl) ?_; rintro _ _ _ ⟨rfl, rfl, rfl⟩))
        refine pq rfl (Qt.as (v' := iv ((t + 9) % 16)) (qt_rem rfl rfl (fun _ => by decide)) (congrArg (Value.int .i64) (tm16w t 9 (by omega)))) ?_
        refine pq rfl (qt_indexA tok rfl rfl rfl rfl (fun _ => by omega)) ?_
        refine pq rfl (qt_ld tok rfl (by (repeat (first | with_reducible apply List.mem_cons_self | with_reducible assumption | with_reducible apply List.mem_cons_of_mem | with_reducible apply List.mem_append_right))) (wC_get (by omega))) ?_
        repeat (first | refine dq ?_ | refine dg ?_ | (refine prn_e0 rfl (sst tok rfl rfl rfl rfl rfl) (by decide +kernel) ?_; rintro _ _ _ ⟨rfl, rfl, rfl⟩) | ((first | refine pe rfl (st_box rfl) ?_ | refine pe rfl (st_alloc tok rfl) ?_ | refine pe rfl (st_buildSlice tok rfl rfl rfl rfl rfl rfl rfl) ?_); rintro _ _ _ ⟨_, rfl, rfl, rfl⟩) | (refine prn_o0 rfl (sst tok rfl rfl rfl rfl rfl) (by decide +kernel) ?_; rintro _ _ _ ⟨rfl, rfl, rfl⟩; refine ⟨by (repeat (first | exact trivial | refine And.intro (pend_q rfl rfl rfl (qt_pev tok rfl)) ?_ | refine And.intro (pend_q rfl rfl rfl (ql tok rfl)) ?_)), ?_⟩) | ((first | refine po rfl (st_box rfl) ?_ | refine po rfl (st_alloc tok rfl) ?_ | refine po rfl (st_buildSlice tok rfl rfl rfl rfl rfl rfl rfl) ?_); rintro _ _ _ ⟨_, rfl, rfl, rfl⟩; refine ⟨by (repeat (first | exact trivial | refine And.intro (pend_q rfl rfl rfl (qt_pev tok rfl)) ?_ | refine And.intro (pend_q rfl rfl rfl (ql tok rfl)) ?_)), ?_⟩) | (refine pe rfl (qt_pev tok rfl) ?_; rintro _ _ _ ⟨rfl, rfl, rfl⟩))
        refine pq rfl (qt_callF rfl (fun _ => right_ok _ _ _ 17 (by decide) (by decide))) ?_
        repeat (first | refine dq ?_ | refine dg ?_ | (refine prn_e0 rfl (sst tok rfl rfl rfl rfl rfl) (by decide +kernel) ?_; rintro _ _ _ ⟨rfl, rfl, rfl⟩) | ((first | refine pe rfl (st_box rfl) ?_ | refine pe rfl (st_alloc tok rfl) ?_ | refine pe rfl (st_buildSlice tok rfl rfl rfl rfl rfl rfl rfl) ?_); rintro _ _ _ ⟨_, rfl, rfl, rfl⟩) | (refine prn_o0 rfl (sst tok rfl rfl rfl rfl rfl) (by decide +kernel) ?_; rintro _ _ _ ⟨rfl, rfl, rfl⟩; refine ⟨by (repeat (first | exact trivial | refine And.intro (pend_q rfl rfl rfl (qt_pev tok rfl)) ?_ | refine And.intro (pend_q rfl rfl rfl (ql tok rfl)) ?_)), ?_⟩) | ((first | refine po rfl (st_box rfl) ?_ | refine po rfl (st_alloc tok rfl) ?_ | refine po rfl (st_buildSlice tok rfl rfl rfl rfl rfl rfl rfl) ?_); rintro _ _ _ ⟨_, rfl, rfl, rfl⟩; refine ⟨by (repeat (first | exact trivial | refine And.intro (pend_q rfl rfl rfl (qt_pev tok rfl)) ?_ | refine And.intro (pend_q rfl rfl rfl (ql tok rfl)) ?_)), ?_⟩) | (refine pe rfl (qt_pev tok rfl) ?_; rintro _ _ _ ⟨rfl, rfl, rfl⟩))
        refine pq rfl (qt_callF rfl (fun _ => right_ok _ _ _ 19 (by decide) (by decide))) ?_
        repeat (first | refine dq ?_ | refine dg ?_ | (refine prn_e0 rfl (sst tok rfl rfl rfl rfl rfl) (by decide +kernel) ?_; rintro _ _ _ ⟨rfl, rfl, rfl⟩) | ((first | refine pe rfl (st_box rfl) ?_ | refine pe rfl (st_alloc tok rfl) ?_ | refine pe rfl (st_buildSlice tok rfl rfl rfl rfl rfl rfl rfl) ?_); rintro _ _ _ ⟨_, rfl, rfl, rfl⟩) | (refine prn_o0 rfl (sst tok rfl rfl rfl rfl rfl) (by decide +kernel) ?_; rintro _ _ _ ⟨rfl, rfl, rfl⟩; refine ⟨by (repeat (first | exact trivial | refine And.intro (pend_q rfl rfl rfl (qt_pev tok rfl)) ?_ | refine And.intro (pend_q rfl rfl rfl (ql tok rfl)) ?_)), ?_⟩) | ((first | refine po rfl (st_box rfl) ?_ | refine po rfl (st_alloc tok rfl) ?_ | refine po rfl (st_buildSlice tok rfl rfl rfl rfl rfl rfl rfl) ?_); rintro _ _ _ ⟨_, rfl, rfl, rfl⟩; refine ⟨by (repeat (first | exact trivial | refine And.intro (pend_q rfl rfl rfl (qt_pev tok rfl)) ?_ | refine And.intro (pend_q rfl rfl rfl (ql tok rfl)) ?_)), ?_⟩) | (refine pe rfl (qt_pev tok rfl) ?_; rintro _ _ _ ⟨rfl, rfl, rfl⟩))
        refine pq rfl (qt_shr rfl rfl (fun _ => by decide)) ?_
        repeat (first | refine dq ?_ | refine dg ?_ | (refine prn_e0 rfl (sst tok rfl rfl rfl rfl rfl) (by decide +kernel) ?_; rintro _ _ _ ⟨rfl, rfl, rfl⟩) | ((first | refine pe rfl (st_box rfl) ?_ | refine pe rfl (st_alloc tok rfl) ?_ | refine pe rfl (st_buildSlice tok rfl rfl rfl rfl rfl rfl rfl) ?_); rintro _ _ _ ⟨_, rfl, rfl, rfl⟩) | (refine prn_o0 rfl (sst tok rfl rfl rfl rfl rfl) (by decide +kernel) ?_; rintro _ _ _ ⟨rfl, rfl, rfl⟩; refine ⟨by (repeat (first | exact trivial | refine And.intro (pend_q rfl rfl rfl (qt_pev tok rfl)) ?_ | refine And.intro (pend_q rfl rfl rfl (ql tok rfl)) ?_)), ?_⟩) | ((first | refine po rfl (st_box rfl) ?_ | refine po rfl (st_alloc tok rfl) ?_ | refine po rfl (st_buildSlice tok rfl rfl rfl rfl rfl rfl rfl) ?_); rintro _ _ _ ⟨_, rfl, rfl, rfl⟩; refine ⟨by (repeat (first | exact trivial | refine And.intro (pend_q rfl rfl rfl (qt_pev tok rfl)) ?_ | refine And.intro (pend_q rfl rfl rfl (ql tok rfl)) ?_)), ?_⟩) | (refine pe rfl (qt_pev tok rfl) ?_; rintro _ _ _ ⟨rfl, rfl, rfl⟩))
        refine pq rfl (qt_indexA tok rfl rfl rfl rfl (fun _ => by omega)) ?_
        refine prn_e0 rfl (sst tok rfl rfl rfl rfl rfl (by (repeat (first | with_reducible apply Upd.here | with_reducible apply Upd.there | with_reducible apply Upd.append_left))) (wC_put (Wd (wrd m) t) (by omega) ?_)) (by decide +kernel) ?_
        · conv => rhs; rw [Wd, if_neg (by omega)]
          simp only [u_shr3, u_shr10, u_xor, u_add, r7, r16]
          rfl
        rintro _ _ _ ⟨rfl, rfl, rfl⟩
        refine prn_end (by decide +kernel) ?_
        have hm' : max (t + 1) 16 = t + 1 := by omega
        exact run_sub' (hmid _ _ _ ⟨rfl, _, by rw [hm']; exact hg.next, fput_same _ _ _, rfl, rfl⟩) ⟨rfl, rfl, rfl, rfl, rfl, rfl, rfl, rfl, rfl, rfl, rfl, rfl, trivial⟩
      · have h16 : t < 16 := by simp at h2; omega
        have hm : max t 16 = 16 := by omega
        have hm' : max (t + 1) 16 = 16 := by omega
        refine run_skip ?_
        refine run_sub' (hmid _ _ _ ⟨rfl, g, by rw [hm']; rw [hm] at hg; exact hg, by rw [hm] at hg; exact hg t h16 (by omega), rfl, rfl⟩) ⟨rfl, rfl, rfl, rfl, rfl, rfl, rfl, rfl, rfl, rfl, rfl, rfl, trivial⟩
    rintro _ _ _ ⟨rfl, g', hg', hgt, rfl, rfl⟩
    simp only [σs]
    refine run_seq ?_
    refine prn_start mixed ?_
    repeat (first | refine dq ?_ | refine dg ?_ | (refine prn_e0 rfl (sst tok rfl rfl rfl rfl rfl) (by decide +kernel) ?_; rintro _ _ _ ⟨rfl, rfl, rfl⟩) | ((first | refine pe rfl (st_box rfl) ?_ | refine pe rfl (st_alloc tok rfl) ?_ | refine pe rfl (st_buildSlice tok rfl rfl rfl rfl rfl rfl rfl) ?_); rintro _ _ _ ⟨_, rfl, rfl, rfl⟩) | (refine prn_o0 rfl (sst tok rfl rfl rfl rfl rfl) (by decide +kernel) ?_; rintro _ _ _ ⟨rfl, rfl, rfl⟩; refine ⟨by (repeat (first | exact trivial | refine And.intro (pend_q rfl rfl rfl (qt_pev tok rfl)) ?_ | refine And.intro (pend_q rfl rfl rfl (ql tok rfl)) ?_)), ?_⟩) | ((first | refine po rfl (st_box rfl) ?_ | refine po rfl (st_alloc tok rfl) ?_ | refine po rfl (st_buildSlice tok rfl rfl rfl rfl rfl rfl rfl) ?_); rintro _ _ _ ⟨_, rfl, rfl, rfl⟩; refine ⟨by (repeat (first | exact trivial | refine And.intro (pend_q rfl rfl rfl (qt_pev tok rfl)) ?_ | refine And.intro (pend_q rfl rfl rfl (ql tok rfl)) ?_)), ?_⟩) | (refine pe rfl (qt_pev tok rfl) ?_; rintro _ _ _ ⟨rfl, rfl, rfl⟩))
    refine pq rfl (qt_callF rfl (fun _ => right_ok _ _ _ 6 (by decide) (by decide))) ?_
    repeat (first | refine dq ?_ | refine dg ?_ | (refine prn_e0 rfl (sst tok rfl rfl rfl rfl rfl) (by decide +kernel) ?_; rintro _ _ _ ⟨rfl, rfl, rfl⟩) | ((first | refine pe rfl (st_box rfl) ?_ | refine pe rfl (st_alloc tok rfl) ?_ | refine pe rfl (st_buildSlice tok rfl rfl rfl rfl rfl rfl rfl) ?_); rintro _ _ _ ⟨_, rfl, rfl, rfl⟩) | (refine prn_o0 rfl (sst tok rfl rfl rfl rfl rfl) (by decide +kernel) ?_; rintro _ _ _ ⟨rfl, rfl, rfl⟩; refine ⟨by (repeat (first | exact trivial | refine And.intro (pend_q rfl rfl rfl (qt_pev tok rfl)) ?_ | refine And.intro (pend_q rfl rfl rfl (ql tok rfl)) ?_)), ?_⟩) | ((first | refine po rfl (st_box rfl) ?_ | refine po rfl (st_alloc tok rfl) ?_ | refine po rfl (st_buildSlice tok rfl rfl rfl rfl rfl rfl rfl) ?_); rintro _ _ _ ⟨_, rfl, rfl, rfl⟩; refine ⟨by (repeat (first | exact trivial | refine And.intro (pend_q rfl rfl rfl (qt_pev tok rfl)) ?_ | refine And.intro (pend_q rfl rfl rfl (ql tok rfl)) ?_)), ?_⟩) | (refine pe rfl (qt_pev tok rfl) ?_; rintro _ _ _ ⟨rfl, rfl, rfl⟩))
    refine pq rfl (qt_callF rfl (fun _ => right_ok _ _ _ 11 (by decide) (by decide))) ?_
    repeat (first | refine dq ?_ | refine dg ?_ | (refine prn_e0 rfl (sst tok rfl rfl rfl rfl rfl) (by decide +kernel) ?_; rintro _ _ _ ⟨rfl, rfl, rfl⟩) | ((first | refine pe rfl (st_box rfl) ?_ | refine pe rfl (st_alloc tok rfl) ?_ | refine pe rfl (st_buildSlice tok rfl rfl rfl rfl rfl rfl rfl) ?_); rintro _ _ _ ⟨_, rfl, rfl, rfl⟩) | (refine prn_o0 rfl (sst tok rfl rfl rfl rfl rfl) (by decide +kernel) ?_; rintro _ _ _ ⟨rfl, rfl, rfl⟩; refine ⟨by (repeat (first | exact trivial | refine And.intro (pend_q rfl rfl rfl (qt_pev tok rfl)) ?_ | refine And.intro (pend_q rfl rfl rfl (ql tok rfl)) ?_)), ?_⟩) | ((first | refine po rfl (st_box rfl) ?_ | refine po rfl (st_alloc tok rfl) ?_ | refine po rfl (st_buildSlice tok rfl rfl rfl rfl rfl rfl rfl) ?_); rintro _ _ _ ⟨_, rfl, rfl, rfl⟩; refine ⟨by (repeat (first | exact trivial | refine And.intro (pend_q rfl rfl rfl (qt_pev tok rfl)) ?_ | refine And.intro (pend_q rfl rfl rfl (ql tok rfl)) ?_)), ?_⟩) | (refine pe rfl (qt_pev tok rfl) ?_; rintro _ _ _ ⟨rfl, rfl, rfl⟩))
    refine pq rfl (qt_callF rfl (fun _ => right_ok _ _ _ 25 (by decide) (by decide))) ?_
    repeat (first | refine dq ?_ | refine dg ?_ | (refine prn_e0 rfl (sst tok rfl rfl rfl rfl rfl) (by decide +kernel) ?_; rintro _ _ _ ⟨rfl, rfl, rfl⟩) | ((first | refine pe rfl (st_box rfl) ?_ | refine pe rfl (st_alloc tok rfl) ?_ | refine pe rfl (st_buildSlice tok rfl rfl rfl rfl rfl rfl rfl) ?_); rintro _ _ _ ⟨_, rfl, rfl, rfl⟩) | (refine prn_o0 rfl (sst tok rfl rfl rfl rfl rfl) (by decide +kernel) ?_; rintro _ _ _ ⟨rfl, rfl, rfl⟩; refine ⟨by (repeat (first | exact trivial | refine And.intro (pend_q rfl rfl rfl (qt_pev tok rfl)) ?_ | refine And.intro (pend_q rfl rfl rfl (ql tok rfl)) ?_)), ?_⟩) | ((first | refine po rfl (st_box rfl) ?_ | refine po rfl (st_alloc tok rfl) ?_ | refine po rfl (st_buildSlice tok rfl rfl rfl rfl rfl rfl rfl) ?_); rintro _ _ _ ⟨_, rfl, rfl, rfl⟩; refine ⟨by (repeat (first | exact trivial | refine And.intro (pend_q rfl rfl rfl (qt_pev tok rfl)) ?_ | refine And.intro (pend_q rfl rfl rfl (ql tok rfl)) ?_)), ?_⟩) | (refine pe rfl (qt_pev tok rfl) ?_; rintro _ _ _ ⟨rfl, rfl, rfl⟩))
    refine pq rfl (qt_indexA tok rfl rfl rfl rfl (fun _ => hlt)) ?_
    refine pq rfl (qt_ldM (k := t * 1) tok rfl hk (ldE_at rfl (by rw [Nat.mul_one]; exact fc_get hlt))) ?_
    repeat (first | refine dq ?_ | refine dg ?_ | (refine prn_e0 rfl (sst tok rfl rfl rfl rfl rfl) (by decide +kernel) ?_; rintro _ _ _ ⟨rfl, rfl, rfl⟩) | ((first | refine pe rfl (st_box rfl) ?_ | refine pe rfl (st_alloc tok rfl) ?_ | refine pe rfl (st_buildSlice tok rfl rfl rfl rfl rfl rfl rfl) ?_); rintro _ _ _ ⟨_, rfl, rfl, rfl⟩) | (refine prn_o0 rfl (sst tok rfl rfl rfl rfl rfl) (by decide +kernel) ?_; rintro _ _ _ ⟨rfl, rfl, rfl⟩; refine ⟨by (repeat (first | exact trivial | refine And.intro (pend_q rfl rfl rfl (qt_pev tok rfl)) ?_ | refine And.intro (pend_q rfl rfl rfl (ql tok rfl)) ?_)), ?_⟩) | ((first | refine po rfl (st_box rfl) ?_ | refine po rfl (st_alloc tok rfl) ?_ | refine po rfl (st_buildSlice tok rfl rfl rfl rfl rfl rfl rfl) ?_); rintro _ _ _ ⟨_, rfl, rfl, rfl⟩; refine ⟨by (repeat (first | exact trivial | refine And.intro (pend_q rfl rfl rfl (qt_pev tok rfl)) ?_ | refine And.intro (pend_q rfl rfl rfl (ql tok rfl)) ?_)), ?_⟩) | (refine pe rfl (qt_pev tok rfl) ?_; rintro _ _ _ ⟨rfl, rfl, rfl⟩))
    refine pq rfl (Qt.as (v' := iv (t % 16)) (qt_rem rfl rfl (fun _ => by decide)) (congrArg (Value.int .i64) (tm16 t))) ?_
    refine pq rfl (qt_indexA tok rfl rfl rfl rfl (fun _ => by omega)) ?_
    refine pq rfl (qt_ld tok rfl (by (repeat (first | with_reducible apply List.mem_cons_self | with_reducible assumption | with_reducible apply List.mem_cons_of_mem | with_reducible apply List.mem_append_right))) (wC_get (by omega))) ?_
    repeat (first | refine dq ?_ | refine dg ?_ | (refine prn_e0 rfl (sst tok rfl rfl rfl rfl rfl) (by decide +kernel) ?_; rintro _ _ _ ⟨rfl, rfl, rfl⟩) | ((first | refine pe rfl (st_box rfl) ?_ | refine pe rfl (st_alloc tok rfl) ?_ | refine pe rfl (st_buildSlice tok rfl rfl rfl rfl rfl rfl rfl) ?_); rintro _ _ _ ⟨_, rfl, rfl, rfl⟩) | (refine prn_o0 rfl (sst tok rfl rfl rfl rfl rfl) (by decide +kernel) ?_; rintro _ _ _ ⟨rfl, rfl, rfl⟩; refine ⟨by (repeat (first | exact trivial | refine And.intro (pend_q rfl rfl rfl (qt_pev tok rfl)) ?_ | refine And.intro (pend_q rfl rfl rfl (ql tok rfl)) ?_)), ?_⟩) | ((first | refine po rfl (st_box rfl) ?_ | refine po rfl (st_alloc tok rfl) ?_ | refine po rfl (st_buildSlice tok rfl rfl rfl rfl rfl rfl rfl) ?_); rintro _ _ _ ⟨_, rfl, rfl, rfl⟩; refine ⟨by (repeat (first | exact trivial | refine And.intro (pend_q rfl rfl rfl (qt_pev tok rfl)) ?_ | refine And.intro (pend_q rfl rfl rfl (ql tok rfl)) ?_)), ?_⟩) | (refine pe rfl (qt_pev tok rfl) ?_; rintro _ _ _ ⟨rfl, rfl, rfl⟩))
    refine prn_end (by decide +kernel) ?_
    repeat (first | with_reducible (first | refine zS ?_ | refine zR ?_ | refine zN ?_ | refine zK ?_ | refine zB ?_ | refine zI ?_) | refine zE rfl ?_ | refine wq ?_ | refine wg ?_ | refine ws ?_ | refine wb fun _ => ?_ | refine wa fun _ => ?_ | refine wl fun _ => ?_ | refine rq (qt_callF rfl (fun _ => right_ok _ _ _ 2 (by decide) (by decide))) ?_ | refine rq (qt_callF rfl (fun _ => right_ok _ _ _ 13 (by decide) (by decide))) ?_ | refine rq (qt_callF rfl (fun _ => right_ok _ _ _ 22 (by decide) (by decide))) ?_)
    have hs : rnds kT (Wd (wrd m)) (t + 1) s = rnd (kT t) (Wd (wrd m) t) r := by rw [rnds, hr]
    rw [hs] at hnext
    refine run_as 10 (wU (r.d + one8 (kT t) (Wd (wrd m) t) r)) rfl (congrArg (Value.int .u32) (by simp only [u_xor, u_and, u_add, hgt]; rfl)) ?_
    refine run_as 6 (wU (one8 (kT t) (Wd (wrd m) t) r + two8 r)) rfl (congrArg (Value.int .u32) (by simp only [u_xor, u_and, u_or, u_add, hgt]; rfl)) ?_
    exact run_sub' (hnext _ _ _ ⟨hlt, rfl, g', hg', rfl, rfl⟩) ⟨lk_succ rfl (by omega), rfl, rfl, rfl, rfl, rfl, rfl, rfl, rfl, rfl, rfl, trivial⟩
  have : t = 64 := by simp at h; omega
  subst this
  clear hnext
  repeat (first | with_reducible (first | refine zS ?_ | refine zR ?_ | refine zN ?_ | refine zK ?_ | refine zB ?_ | refine zI ?_) | refine zE rfl ?_ | refine wq ?_ | refine wg ?_ | refine ws ?_ | refine wb fun _ => ?_ | refine wa fun _ => ?_ | refine wl fun _ => ?_)
  refine rq (Qt.as (v' := .agg ⟨r.cells⟩) (qt_buildArr tok rfl rfl rfl rfl rfl rfl) rfl) ?_
  repeat (first | with_reducible (first | refine zS ?_ | refine zR ?_ | refine zN ?_ | refine zK ?_ | refine zB ?_ | refine zI ?_) | refine zE rfl ?_ | refine wq ?_ | refine wg ?_ | refine ws ?_ | refine wb fun _ => ?_ | refine wa fun _ => ?_ | refine wl fun _ => ?_)
  have hL : shB b s m n = (b, .cells ⟨stC8 s.get (fc (fun i => wB (m i)) 64 ++ [.int .i64 (n : Int)])⟩ 157 (0, 0)) := rfl
  rw [hL]
  generalize hR : fc (fun i => wB (m i)) 64 ++ [.int .i64 (n : Int)] = R at hL ⊢
  refine run_loopN (fun j σ1 M1 L1 => j ≤ 8 ∧ M = M1 ∧ ∃ q : Nat → B32, (∀ i, i < j → q i = s.get i + r.get i) ∧ (∀ i, j ≤ i → q i = s.get i) ∧ L1 = wBk bw g :: (b, .cells ⟨stC8 q R⟩ 157 (0, 0)) :: L ∧ σ1 = [(200, iv j), (199, .agg ⟨r.cells⟩), (0, pt b)]) 8 [(200, iv 0), (199, .agg ⟨r.cells⟩), (0, pt b)] ?_ ⟨Nat.zero_le _, rfl, _, (fun i hi => absurd hi (Nat.not_lt_zero _)), (fun _ _ => rfl), rfl, rfl⟩ (fun j _ _ _ h => h.1) ?_
  · exact ⟨rfl, rfl, rfl, trivial⟩
  rintro j _ _ _ ⟨hj, rfl, q, hq1, hq2, rfl, rfl⟩ hnext
  repeat (first | with_reducible (first | refine zS ?_ | refine zR ?_ | refine zN ?_ | refine zK ?_ | refine zB ?_ | refine zI ?_) | refine zE rfl ?_ | refine wq ?_ | refine wg ?_ | refine ws ?_ | refine wb fun _ => ?_ | refine wa fun _ => ?_ | refine wl fun _ => ?_)
  refine run_cond rfl (fun h => ?_) (fun h => ?_)
  · have hlt : j < 8 := by simp at h; omega
    repeat (first | with_reducible (first | refine zS ?_ | refine zR ?_ | refine zN ?_ | refine zK ?_ | refine zB ?_ | refine zI ?_) | refine zE rfl ?_ | refine wq ?_ | refine wg ?_ | refine ws ?_ | refine wb fun _ => ?_ | refine wa fun _ => ?_ | refine wl fun _ => ?_)
    refine rq (qt_indexV (v := wU (r.get j)) tok rfl rfl rfl rfl (fun _ => ⟨hlt, ldE_at rfl (by show r.cells[j]? = _; rw [S8.cells_fc]; exact fc_get hlt)⟩)) ?_
    repeat (first | with_reducible (first | refine zS ?_ | refine zR ?_ | refine zN ?_ | refine zK ?_ | refine zB ?_ | refine zI ?_) | refine zE rfl ?_ | refine wq ?_ | refine wg ?_ | refine ws ?_ | refine wb fun _ => ?_ | refine wa fun _ => ?_ | refine wl fun _ => ?_)
    refine prn_start mixed ?_
    repeat (first | refine dq ?_ | refine dg ?_ | (refine prn_e0 rfl (sst tok rfl rfl rfl rfl rfl) (by decide +kernel) ?_; rintro _ _ _ ⟨rfl, rfl, rfl⟩) | ((first | refine pe rfl (st_box rfl) ?_ | refine pe rfl (st_alloc tok rfl) ?_ | refine pe rfl (st_buildSlice tok rfl rfl rfl rfl rfl rfl rfl) ?_); rintro _ _ _ ⟨_, rfl, rfl, rfl⟩) | (refine prn_o0 rfl (sst tok rfl rfl rfl rfl rfl) (by decide +kernel) ?_; rintro _ _ _ ⟨rfl, rfl, rfl⟩; refine ⟨by (repeat (first | exact trivial | refine And.intro (pend_q rfl rfl rfl (qt_pev tok rfl)) ?_ | refine And.intro (pend_q rfl rfl rfl (ql tok rfl)) ?_)), ?_⟩) | ((first | refine po rfl (st_box rfl) ?_ | refine po rfl (st_alloc tok rfl) ?_ | refine po rfl (st_buildSlice tok rfl rfl rfl rfl rfl rfl rfl) ?_); rintro _ _ _ ⟨_, rfl, rfl, rfl⟩; refine ⟨by (repeat (first | exact trivial | refine And.intro (pend_q rfl rfl rfl (qt_pev tok rfl)) ?_ | refine And.intro (pend_q rfl rfl rfl (ql tok rfl)) ?_)), ?_⟩) | (refine pe rfl (qt_pev tok rfl) ?_; rintro _ _ _ ⟨rfl, rfl, rfl⟩))
    refine pq rfl (qt_indexA tok rfl rfl rfl rfl (fun _ => hlt)) ?_
    refine pq rfl (qt_ld tok rfl (by (repeat (first | with_reducible apply List.mem_cons_self | with_reducible assumption | with_reducible apply List.mem_cons_of_mem | with_reducible apply List.mem_append_right))) (st8_get hlt)) ?_
    repeat (first | refine dq ?_ | refine dg ?_ | (refine prn_e0 rfl (sst tok rfl rfl rfl rfl rfl) (by decide +kernel) ?_; rintro _ _ _ ⟨rfl, rfl, rfl⟩) | ((first | refine pe rfl (st_box rfl) ?_ | refine pe rfl (st_alloc tok rfl) ?_ | refine pe rfl (st_buildSlice tok rfl rfl rfl rfl rfl rfl rfl) ?_); rintro _ _ _ ⟨_, rfl, rfl, rfl⟩) | (refine prn_o0 rfl (sst tok rfl rfl rfl rfl rfl) (by decide +kernel) ?_; rintro _ _ _ ⟨rfl, rfl, rfl⟩; refine ⟨by (repeat (first | exact trivial | refine And.intro (pend_q rfl rfl rfl (qt_pev tok rfl)) ?_ | refine And.intro (pend_q rfl rfl rfl (ql tok rfl)) ?_)), ?_⟩) | ((first | refine po rfl (st_box rfl) ?_ | refine po rfl (st_alloc tok rfl) ?_ | refine po rfl (st_buildSlice tok rfl rfl rfl rfl rfl rfl rfl) ?_); rintro _ _ _ ⟨_, rfl, rfl, rfl⟩; refine ⟨by (repeat (first | exact trivial | refine And.intro (pend_q rfl rfl rfl (qt_pev tok rfl)) ?_ | refine And.intro (pend_q rfl rfl rfl (ql tok rfl)) ?_)), ?_⟩) | (refine pe rfl (qt_pev tok rfl) ?_; rintro _ _ _ ⟨rfl, rfl, rfl⟩))
    refine pq rfl (qt_indexA tok rfl rfl rfl rfl (fun _ => hlt)) ?_
    refine prn_e0 rfl (sst tok rfl rfl rfl rfl rfl (by (repeat (first | with_reducible apply Upd.here | with_reducible apply Upd.there | with_reducible apply Upd.append_left))) (st8_put (q j + r.get j) hlt (u_add _ _))) (by decide +kernel) ?_
    rintro _ _ _ ⟨rfl, rfl, rfl⟩
    refine prn_end (by decide +kernel) ?_
    repeat (first | with_reducible (first | refine zS ?_ | refine zR ?_ | refine zN ?_ | refine zK ?_ | refine zB ?_ | refine zI ?_) | refine zE rfl ?_ | refine wq ?_ | refine wg ?_ | refine ws ?_ | refine wb fun _ => ?_ | refine wa fun _ => ?_ | refine wl fun _ => ?_)
    refine run_sub' (hnext _ _ _ ⟨hlt, rfl, _, ?_, ?_, rfl, rfl⟩) ⟨lk_succ rfl (by omega), rfl, rfl, trivial⟩
    · intro x hx
      by_cases e : x = j
      · subst e; rw [fput_same, hq2 x (Nat.le_refl _)]
      · rw [fput_ne _ _ e]; exact hq1 x (by omega)
    · intro x hx
      rw [fput_ne _ _ (by omega)]; exact hq2 x (by omega)
  have : j = 8 := by simp at h; omega
  subst this
  repeat (first | with_reducible (first | refine zS ?_ | refine zR ?_ | refine zN ?_ | refine zK ?_ | refine zB ?_ | refine zI ?_) | refine zE rfl ?_ | refine wq ?_ | refine wg ?_ | refine ws ?_ | refine wb fun _ => ?_ | refine wa fun _ => ?_ | refine wl fun _ => ?_)
  refine run_end hC rfl (vs := []) trivial (fun _ h => h.drop) ⟨rfl, ?_⟩
  have e : stC8 q R = (takeS s m).cells ++ R := by
    unfold stC8
    congr 1
    rw [S8.cells_fc]
    exact fc_ext fun i hi => by
      rw [hq1 i hi]
      have : i = 0 ∨ i = 1 ∨ i = 2 ∨ i = 3 ∨ i = 4 ∨ i = 5 ∨ i = 6 ∨ i = 7 := by omega
      rcases this with rfl | rfl | rfl | rfl | rfl | rfl | rfl | rfl <;> (rw [← hr]; rfl)
  rw [e, ← hR]
  rfl
end Go.Proofs.YtkjljcgbnikmkaaGreatDoor
