import Derived.Test.YtladcmfbkiogbaaGreatDoorBRB
import Derived.Test.YtladcmfbkiogbaaGreatDoorBRD
import Derived.Test.YtladcmfbkiogbaaGreatDoorBRA
import Derived.Test.YtladcmfbkiogbaaGreatDoorBRC
set_option maxHeartbeats 32000000
set_option linter.all false
namespace Go.Proofs.YtladcmfbkiogbaaGreatDoor
open Go.Chi
set_option maxRecDepth 10000
theorem script_ok (M:Mem) (L:HL) (r:Int):TrQ Tryz.prog 88 [.int .i32 r] M L (.int .u8 (ofR r)):=by
 refine Tr.intro 21 Tryz.func88 rfl rfl Tryz.call88 rfl ?_;intro C hC hro
 repeat (first | refine yy ?_ | refine yx fun _=> ?_)
 refine run_cond (t:=decide (r≥97)&&decide (r≤122)) rfl (fun h=> ?_) (fun h=> ?_)
 ·simp only [Bool.and_eq_true,decide_eq_true_eq] at h
  repeat (first | refine yy ?_ | refine yx fun _=> ?_)
  exact run_ret hC (rs:= [.tmp 2]) rfl (resT rfl resN) (fun _ h=>h) ⟨by rw [ofR,if_pos h];rfl,rfl,rfl⟩
 simp only [Bool.and_eq_false_iff,decide_eq_false_iff_not] at h
 have h1: ¬(97≤r∧r≤122):=by omega
 repeat (first | refine yy ?_ | refine yx fun _=> ?_)
 refine run_cond (t:=decide (r≥945)&&decide (r≤969)) rfl (fun h=> ?_) (fun h=> ?_)
 ·simp only [Bool.and_eq_true,decide_eq_true_eq] at h
  repeat (first | refine yy ?_ | refine yx fun _=> ?_)
  exact run_ret hC (rs:= [.tmp 2]) rfl (resT rfl resN) (fun _ h=>h) ⟨by rw [ofR,if_neg h1,if_pos h];rfl,rfl,rfl⟩
 simp only [Bool.and_eq_false_iff,decide_eq_false_iff_not] at h
 have h2: ¬(945≤r∧r≤969):=by omega
 repeat (first | refine yy ?_ | refine yx fun _=> ?_)
 refine run_cond (t:=decide (r≥1072)&&decide (r≤1103)) rfl (fun h=> ?_) (fun h=> ?_)
 ·simp only [Bool.and_eq_true,decide_eq_true_eq] at h
  repeat (first | refine yy ?_ | refine yx fun _=> ?_)
  exact run_ret hC (rs:= [.tmp 2]) rfl (resT rfl resN) (fun _ h=>h) ⟨by rw [ofR,if_neg h1,if_neg h2,if_pos h];rfl,rfl,rfl⟩
 simp only [Bool.and_eq_false_iff,decide_eq_false_iff_not] at h
 repeat (first | refine yy ?_ | refine yx fun _=> ?_)
 exact run_ret hC (rs:= [.tmp 2]) rfl (resT rfl resN) (fun _ h=>h) ⟨by rw [ofR,if_neg h1,if_neg h2,if_neg (by omega)];rfl,rfl,rfl⟩
def signR (r:Int):Bool:=(decide (r≥48)&&decide (r≤57))||(r==45)
theorem sign_ok (M:Mem) (L:HL) (r:Int):TrQ Tryz.prog 89 [.int .i32 r] M L (.bool (signR r)):=by
 refine Tr.intro 13 Tryz.func89 rfl rfl Tryz.call89 rfl ?_;intro C hC hro
 repeat (first | refine yk ?_ | refine yx fun _=> ?_)
 exact run_ret hC (rs:= [.tmp 2]) rfl (resT rfl resN) (fun _ h=>h) ⟨rfl,rfl,rfl⟩
theorem iC_flat (xs:List Int):(xs.map iC).flatten=xs.map (Value.int .i32):=by
 induction xs with
 | nil=>rfl
 | cons y l ih=>rw [List.map_cons,List.flatten_cons,ih];rfl
theorem run_frzOS {C:Cx} {n:Nat} {k:List Item} {ds:List Deferred} {σ:Env} {M:Mem} {L N:HL} {a:Option Addr} {c m:Nat} {xs:List Int} (hO:OS 21 1 (.slice a m c) m (xs.map (Value.int .i32)) N) (hm:m=xs.length)
 (h: ∀M1,M.le M1→SlM M1 1 a m (xs.map iC)→Run Tryz.prog C n k ds σ M1 L):Run Tryz.prog C n k ds σ M (N++L):=by
 subst hm
 rcases hO with ⟨hv,h0,hx,rfl⟩ | ⟨b,cap,cs,hv,rfl,hle,hcl,hcs⟩
 ·injection hv with e1 e2 e3
  subst e1
  have hx:xs= []:=List.map_eq_nil_iff.1 hx
  subst hx
  exact h M (Mem.le_refl _) ⟨rfl,(fun _ h=>by cases h),.inl rfl⟩
 ·injection hv with e1 e2 e3
  subst e1
  refine run_frzL [_] fun M1 hM1 hb=>h M1 hM1 ?_
  have hb0:=hb _ List.mem_cons_self
  refine ⟨by rw [List.length_map],(fun l hl=>by obtain ⟨x,_,rfl⟩:=List.mem_map.1 hl;rfl),.inr ⟨b,0,rfl,fun i c hc=>⟨_,_,_,.inr hb0,fun k v hv=> ?_⟩⟩⟩
  have:=flat_at (fun l hl=>by obtain ⟨x,_,rfl⟩:=List.mem_map.1 hl;rfl) hc hv
  rw [iC_flat,←hcs] at this
  rw [Nat.mul_one] at this
  rw [List.getElem?_toArray,Nat.zero_add]
  have h3:=(List.getElem?_eq_some_iff.1 this).1
  rw [List.getElem?_take] at this
  split at this
  ·exact this
  ·cases this
def badI (r:Int):Bool:=(ofR r==0)&& !signR r
structure NameI (xs:List Int):Prop where
 len:xs.length≤24
 pos:xs≠ []
 fst:xs[0]? ≠some 45
 lst:xs[xs.length-1]? ≠some 45
 each: ∀x∈xs,badI x=false
 one: ∀x∈xs,∀y∈xs,ofR x≠0→ofR y≠0→ofR x=ofR y
def mixI (x y:Int):Bool:=((ofR x !=0)&&(ofR y !=0))&&(ofR x !=ofR y)
def refN (xs:List Int):Int:=if 24<xs.length then 5 else if xs= []∨xs[0]? =some 45∨xs[xs.length-1]? =some 45 then 7 else if xs.any badI=true then 7 else if (xs.any fun x=>xs.any fun y=>mixI x y)=true then 50 else 0
theorem refN_zero (xs:List Int):refN xs=0↔NameI xs:=by
 unfold refN
 by_cases h1:24<xs.length
 ·rw [if_pos h1];exact ⟨fun h=>absurd h (by decide),fun h=>by have:=h.len;omega⟩
 rw [if_neg h1]
 by_cases h2:xs= []∨xs[0]? =some 45∨xs[xs.length-1]? =some 45
 ·rw [if_pos h2]
  refine ⟨fun h=>absurd h (by decide),fun h=> ?_⟩
  rcases h2 with e | e | e
  ·exact absurd e h.pos
  ·exact absurd e h.fst
  ·exact absurd e h.lst
 rw [if_neg h2]
 by_cases h3:xs.any badI=true
 ·rw [if_pos h3]
  refine ⟨fun h=>absurd h (by decide),fun h=> ?_⟩
  obtain ⟨x,hx,hb⟩:=List.any_eq_true.1 h3
  rw [h.each x hx] at hb;cases hb
 rw [if_neg h3]
 by_cases h4:(xs.any fun x=>xs.any fun y=>mixI x y)=true
 ·rw [if_pos h4]
  refine ⟨fun h=>absurd h (by decide),fun h=> ?_⟩
  obtain ⟨x,hx,hb⟩:=List.any_eq_true.1 h4
  obtain ⟨y,hy,hb⟩:=List.any_eq_true.1 hb
  simp only [mixI,Bool.and_eq_true,bne_iff_ne] at hb
  exact absurd (h.one x hx y hy hb.1.1 hb.1.2) hb.2
 rw [if_neg h4]
 refine ⟨fun _=>⟨by omega,fun e=>h2 (.inl e),fun e=>h2 (.inr (.inl e)),fun e=>h2 (.inr (.inr e)),fun x hx=> ?_,fun x hx y hy e1 e2=> ?_⟩,fun _=>rfl⟩
 ·cases hb:badI x with
  | false=>rfl
  | true=>exact absurd (List.any_eq_true.2 ⟨x,hx,hb⟩) h3
 ·refine Classical.byContradiction fun e3=>h4 (List.any_eq_true.2 ⟨x,hx,List.any_eq_true.2 ⟨y,hy, ?_⟩⟩)
  simp [mixI,e1,e2,e3]
theorem refCheckN_ok (M:Mem) (L:HL) (s:ByteArray) (hs:s.size<1000000):TrQ Tryz.prog 50 [.string s] M L (.int .i64 (refN (runI s))):=by
 have hlen:=runI_len s
 refine Tr.intro 88 Tryz.func50 rfl rfl Tryz.call50 rfl ?_;intro C hC hro
 repeat (first | refine yy ?_ | refine yx fun _=> ?_ | (refine oc (refRunes_ok _ _ s hs) ?_;rintro _ _ _ ⟨rfl,a,c,N,rfl,rfl,hO⟩))
 refine run_frzOS hO rfl fun M1 hM1 hsl=> ?_
 generalize runI s=xs at*
 have hfin: ∀ {k:Int} {w},refN xs=k→(∀w,Hp M1 L w→Hp M L w)∧(w=Value.int .i64 k→w= .int .i64 (refN xs)):=fun h=>⟨fun _ h=>h.of_le hM1,fun e=>by rw [e,h]⟩
 repeat (first | refine yy ?_ | refine yx fun _=> ?_)
 refine run_cond (t:=decide ((xs.length:Int)>24)) rfl (fun h=> ?_) (fun h=> ?_)
 ·have h:=of_decide_eq_true h
  have he:refN xs=5:=by rw [refN,if_pos (by omega)]
  repeat (first | refine yy ?_ | refine yx fun _=> ?_)
  exact run_ret hC (rs:= [.tmp 2]) rfl (resT rfl resN) (fun _ h=>h.of_le hM1) ⟨by rw [he];rfl,rfl,rfl⟩
 have h24: ¬24<xs.length:=by have:=of_decide_eq_false h;omega
 clear h
 have h7:xs= []∨xs[0]? =some 45∨xs[xs.length-1]? =some 45→refN xs=7:=fun h=>by rw [refN,if_neg h24,if_pos h]
 by_cases h0:xs.length=0
 ·obtain rfl:=List.length_eq_zero_iff.1 h0
  have he:=h7 (.inl rfl)
  repeat (first | refine yk ?_ | refine yx fun _=> ?_)
  refine run_cond (t:=true) rfl (fun _=> ?_) (fun h=>by cases h)
  repeat (first | refine yy ?_ | refine yx fun _=> ?_)
  exact run_ret hC (rs:= [.tmp 2]) rfl (resT rfl resN) (fun _ h=>h.of_le hM1) ⟨by rw [he];rfl,rfl,rfl⟩
 obtain ⟨b1,o1,x,rfl,hx1,hc1⟩:=SlC.at_ hsl (j:=0) (by omega)
 obtain ⟨b2,o2,y,e2,hy1,hc2⟩:=SlC.at_ hsl (j:=xs.length-1) (by omega)
 cases e2
 have hpos:0<xs.length:=by omega
 have hw:IntKind.i64.wrap ((xs.length:Int)-1)=((xs.length-1:Nat):Int):=by rw [show (xs.length:Int)-1=((xs.length-1:Nat):Int) by omega,wrap64_nat (by omega)]
 repeat (first | refine zc ?_ | refine vq ?_)
 refine runL_as 15 (.bool false) rfl (by congr 1;simpa using h0) ?_
 iterate 6 (first | refine yk ?_ | fail)
 by_cases h45:x=45
 ·subst h45
  have he:=h7 (.inr (.inl hx1))
  refine runL_as 21 (.bool true) rfl rfl ?_
  repeat (first | refine yk ?_ | refine yx fun _=> ?_)
  refine run_cond (t:=true) rfl (fun _=> ?_) (fun h=>by cases h)
  repeat (first | refine yy ?_ | refine yx fun _=> ?_)
  exact run_ret hC (rs:= [.tmp 2]) rfl (resT rfl resN) (fun _ h=>h.of_le hM1) ⟨by rw [he];rfl,rfl,rfl⟩
 refine runL_as 21 (.bool false) rfl (by congr 1;simp only [Bool.or_eq_false_iff];exact ⟨trivial,by simpa using h45⟩) ?_
 repeat (first | refine yk ?_ | refine yx fun _=> ?_)
 refine runL_as 25 (.int .i64 ((xs.length-1:Nat):Int)) rfl (congrArg (Value.int .i64) hw) ?_
 repeat (first | refine yk ?_ | refine yx fun _=> ?_)
 by_cases h46:y=45
 ·subst h46
  have he:=h7 (.inr (.inr hy1))
  refine run_cond (t:=true) (by congr 2) (fun _=> ?_) (fun h=>by cases h)
  repeat (first | refine yy ?_ | refine yx fun _=> ?_)
  exact run_ret hC (rs:= [.tmp 2]) rfl (resT rfl resN) (fun _ h=>h.of_le hM1) ⟨by rw [he];rfl,rfl,rfl⟩
 refine run_cond (t:=false) (by
  have:(y==45)=false:=by simpa using h46
  first
  | exact congrArg (fun z=>some (Value.bool z)) this
  | (show some (Value.bool (false||(y==45)))=_;rw [this];rfl)) (fun h=>by cases h) (fun _=> ?_)
 have hn7: ¬(xs= []∨xs[0]? =some 45∨xs[xs.length-1]? =some 45):=by
  rintro (e | e | e)
  ·rw [e] at h0;exact h0 rfl
  ·rw [hx1] at e;exact h45 (Option.some.inj e)
  ·rw [hy1] at e;exact h46 (Option.some.inj e)
 have hr1:refN xs=if xs.any badI=true then 7 else if (xs.any fun x=>xs.any fun y=>mixI x y)=true then 50 else 0:=by rw [refN,if_neg h24,if_neg hn7]
 clear h7 hfin
 repeat (first | refine yy ?_ | refine yx fun _=> ?_)
 refine run_loopN (fun j σ1 M2 L1=>j≤xs.length∧M1=M2∧L=L1∧(xs.take j).any badI=false∧σ1= [(4,iv j),(3,.slice (some ⟨b1,o1,none⟩) xs.length c)]) xs.length [(4,iv 0),(3,.slice (some ⟨b1,o1,none⟩) xs.length c)] ?_ ⟨Nat.zero_le _,rfl,rfl,rfl,rfl⟩ (fun j _ _ _ h=>h.1) ?_
 ·exact ⟨rfl,rfl,trivial⟩
 rintro j _ _ _ ⟨hj,rfl,rfl,hpre,rfl⟩ hnext
 repeat (first | refine yy ?_ | refine yx fun _=> ?_)
 refine run_cond (t:=decide ((j:Int)<(xs.length:Int))) rfl (fun h=> ?_) (fun h=> ?_)
 ·have hlt:j<xs.length:=by have:=of_decide_eq_true h;omega
  obtain ⟨b3,o3,z,e3,hz,hc3⟩:=SlC.at_ hsl hlt
  cases e3
  repeat (first | refine yy ?_ | refine yx fun _=> ?_ | refine qc (script_ok _ _ z) ?_ | refine gc (sign_ok _ _ z) ?_)
  refine run_cond (t:=badI z) rfl (fun h=> ?_) (fun h=> ?_)
  ·have he:refN xs=7:=by rw [hr1,if_pos (List.any_eq_true.2 ⟨z,List.mem_of_getElem? hz,h⟩)]
   repeat (first | refine yy ?_ | refine yx fun _=> ?_)
   exact run_ret hC (rs:= [.tmp 2]) rfl (resT rfl resN) (fun _ h=>h.of_le hM1) ⟨by rw [he];rfl,rfl,rfl⟩
  ·repeat (first | refine yy ?_ | refine yx fun _=> ?_)
   refine run_sub' (hnext _ _ _ ⟨hlt,rfl,rfl, ?_,rfl⟩) ⟨lk_succ rfl (by omega),rfl,trivial⟩
   rw [take_snoc hz,List.any_append,hpre];simpa using h
 have hge:j=xs.length:=by have:=of_decide_eq_false h;omega
 rw [hge,List.take_length] at hpre
 rw [if_neg (by rw [hpre];decide)] at hr1
 clear hnext h
 repeat (first | refine yy ?_ | refine yx fun _=> ?_)
 refine run_loopN (fun j σ1 M2 L1=>j≤xs.length∧M1=M2∧L=L1∧(∀x∈xs.take j,∀y∈xs.take j,ofR x≠0→ofR y≠0→ofR x=ofR y)∧σ1= [(5,iv j),(3,.slice (some ⟨b1,o1,none⟩) xs.length c)]) xs.length [(5,iv 0),(3,.slice (some ⟨b1,o1,none⟩) xs.length c)] ?_ ⟨Nat.zero_le _,rfl,rfl,(fun _ h=>by cases h),rfl⟩ (fun j _ _ _ h=>h.1) ?_
 ·exact ⟨rfl,rfl,trivial⟩
 rintro i _ _ _ ⟨hi,rfl,rfl,hone,rfl⟩ hnext
 repeat (first | refine yy ?_ | refine yx fun _=> ?_)
 refine run_cond (t:=decide ((i:Int)<(xs.length:Int))) rfl (fun h=> ?_) (fun h=> ?_)
 rotate_left
 ·have hge:i=xs.length:=by have:=of_decide_eq_false h;omega
  rw [hge,List.take_length] at hone
  have he:refN xs=0:=by
   rw [hr1,if_neg]
   intro h4
   obtain ⟨x,hx,hb⟩:=List.any_eq_true.1 h4
   obtain ⟨y,hy,hb⟩:=List.any_eq_true.1 hb
   simp only [mixI,Bool.and_eq_true,bne_iff_ne] at hb
   exact hb.2 (hone x hx y hy hb.1.1 hb.1.2)
  repeat (first | refine yy ?_ | refine yx fun _=> ?_)
  exact run_ret hC (rs:= [.tmp 2]) rfl (resT rfl resN) (fun _ h=>h.of_le hM1) ⟨by rw [he];rfl,rfl,rfl⟩
 have hlt:i<xs.length:=by have:=of_decide_eq_true h;omega
 obtain ⟨b3,o3,z,e3,hz,hc3⟩:=SlC.at_ hsl hlt
 cases e3
 repeat (first | refine yy ?_ | refine yx fun _=> ?_)
 refine run_loopN (fun j σ1 M2 L1=>j≤i∧M1=M2∧L=L1∧(∀y∈xs.take j,ofR z≠0→ofR y≠0→ofR z=ofR y)∧σ1= [(6,iv j),(5,iv i),(3,.slice (some ⟨b1,o1,none⟩) xs.length c)]) i [(6,iv 0),(5,iv i),(3,.slice (some ⟨b1,o1,none⟩) xs.length c)] ?_ ⟨Nat.zero_le _,rfl,rfl,(fun _ h=>by cases h),rfl⟩ (fun j _ _ _ h=>h.1) ?_
 ·exact ⟨rfl,rfl,rfl,trivial⟩
 rintro j2 _ _ _ ⟨hj2,rfl,rfl,hin,rfl⟩ hnext2
 repeat (first | refine yy ?_ | refine yx fun _=> ?_)
 refine run_cond (t:=decide ((j2:Int)<(i:Int))) rfl (fun h=> ?_) (fun h=> ?_)
 ·have hlt2:j2<i:=by have:=of_decide_eq_true h;omega
  obtain ⟨b4,o4,q,e4,hq,hc4⟩:=SlC.at_ hsl (show j2<xs.length by omega)
  cases e4
  repeat (first | refine yy ?_ | refine dd ?_ | refine yd ?_ | refine yx fun _=> ?_ | refine pc (script_ok _ _ _) ?_ | refine pgc (script_ok _ _ _) ?_)
  refine run_cond (t:=mixI z q) rfl (fun h=> ?_) (fun h=> ?_)
  ·have he:refN xs=50:=by rw [hr1,if_pos (List.any_eq_true.2 ⟨z,List.mem_of_getElem? hz,List.any_eq_true.2 ⟨q,List.mem_of_getElem? hq,h⟩⟩)]
   repeat (first | refine yy ?_ | refine yx fun _=> ?_)
   exact run_ret hC (rs:= [.tmp 2]) rfl (resT rfl resN) (fun _ h=>h.of_le hM1) ⟨by rw [he];rfl,rfl,rfl⟩
  ·repeat (first | refine yy ?_ | refine yx fun _=> ?_)
   refine run_sub' (hnext2 _ _ _ ⟨hlt2,rfl,rfl,fun y hy e1 e2=> ?_,rfl⟩) ⟨lk_succ rfl (by omega),rfl,rfl,trivial⟩
   rw [take_snoc hq] at hy
   rcases List.mem_append.1 hy with hy | hy
   ·exact hin y hy e1 e2
   ·rw [List.mem_singleton.1 hy] at e2⊢
    refine Classical.byContradiction fun e3=> ?_
    rw [mixI] at h
    simp [e1,e2,e3] at h
 ·have hge:j2=i:=by have:=of_decide_eq_false h;omega
  subst hge
  repeat (first | refine yy ?_ | refine yx fun _=> ?_)
  refine run_sub' (hnext _ _ _ ⟨hlt,rfl,rfl,fun x hx y hy e1 e2=> ?_,rfl⟩) ⟨lk_succ rfl (by omega),rfl,trivial⟩
  rw [take_snoc hz] at hx hy
  rcases List.mem_append.1 hx with hx | hx
  ·rcases List.mem_append.1 hy with hy | hy
   ·exact hone x hx y hy e1 e2
   ·rw [List.mem_singleton.1 hy] at e2⊢
    exact (hin x hx e2 e1).symm
  ·rw [List.mem_singleton.1 hx] at e1⊢
   rcases List.mem_append.1 hy with hy | hy
   ·exact hin y hy e1 e2
   ·rw [List.mem_singleton.1 hy]
open Go.Chi Go.Lib
theorem badI_odd (r:Nat):badI (r:Int)=oddR r:=by
 unfold badI signR oddR
 rw [Bool.eq_iff_iff]
 simp
 omega
theorem fst_err: ∀(l:List Nat) (k e:Int),e≠0→(fstF l k e).2≠0
 | [],_,_,h=>h
 | x::l,k,e,h=>by
   rw [fstF]
   split
   ·show (7:Int)≠0;decide
   split
   ·exact fst_err l _ _ h
   split
   ·exact fst_err l _ _ (by decide)
   ·exact fst_err l _ _ h
theorem fst_zero: ∀(l:List Nat) (k:Int),(fstF l k 0).2=0↔(∀r∈l,oddR r=false)∧(k≠0→ ∀r∈l,ofR r≠0→ofR r=k)∧(k=0→ ∀r∈l,∀q∈l,ofR r≠0→ofR q≠0→ofR r=ofR q)
 | [],k=>⟨fun _=>⟨(fun _ h=>by cases h),(fun _ _ h=>by cases h),(fun _ _ h=>by cases h)⟩,fun _=>rfl⟩
 | x::l,k=>by
   rw [fstF]
   by_cases hx:oddR x=true
   ·rw [if_pos hx]
    exact ⟨fun h=>absurd h (show ¬(7:Int)=0 by decide),fun h=>by have:=h.1 x List.mem_cons_self;rw [hx] at this;cases this⟩
   have hx':oddR x=false:=by simpa using hx
   rw [if_neg hx]
   by_cases hk:k=0
   ·subst hk
    rw [if_pos rfl,fst_zero l]
    by_cases ho:ofR x=0
    ·constructor
     ·rintro ⟨h1,_,h3⟩
      refine ⟨fun r hr=> ?_,fun h=>absurd rfl h,fun _ r hr q hq e1 e2=> ?_⟩
      ·rcases List.mem_cons.1 hr with rfl | hr
       ·exact hx'
       ·exact h1 r hr
      ·rcases List.mem_cons.1 hr with rfl | hr
       ·exact absurd ho e1
       rcases List.mem_cons.1 hq with rfl | hq
       ·exact absurd ho e2
       exact h3 ho r hr q hq e1 e2
     ·rintro ⟨h1,_,h3⟩
      exact ⟨fun r hr=>h1 r (List.mem_cons_of_mem _ hr),fun h=>absurd ho h,fun _ r hr q hq=>h3 rfl r (List.mem_cons_of_mem _ hr) q (List.mem_cons_of_mem _ hq)⟩
    ·constructor
     ·rintro ⟨h1,h2,_⟩
      have h2:=h2 ho
      refine ⟨fun r hr=> ?_,fun h=>absurd rfl h,fun _ r hr q hq e1 e2=> ?_⟩
      ·rcases List.mem_cons.1 hr with rfl | hr
       ·exact hx'
       ·exact h1 r hr
      ·have k1:ofR r=ofR x:=by
        rcases List.mem_cons.1 hr with rfl | hr
        ·rfl
        ·exact h2 r hr e1
       have k2:ofR q=ofR x:=by
        rcases List.mem_cons.1 hq with rfl | hq
        ·rfl
        ·exact h2 q hq e2
       rw [k1,k2]
     ·rintro ⟨h1,_,h3⟩
      exact ⟨fun r hr=>h1 r (List.mem_cons_of_mem _ hr),fun _ r hr e1=>h3 rfl r (List.mem_cons_of_mem _ hr) x List.mem_cons_self e1 ho,fun h=>absurd h ho⟩
   ·rw [if_neg hk]
    by_cases ho:ofR x≠0∧ofR x≠k
    ·rw [if_pos ho]
     exact ⟨fun h=>absurd h (fst_err l k 50 (by decide)),fun h=>absurd (h.2.1 hk x List.mem_cons_self ho.1) ho.2⟩
    ·rw [if_neg ho,fst_zero l k]
     constructor
     ·rintro ⟨h1,h2,_⟩
      refine ⟨fun r hr=> ?_,fun _ r hr e1=> ?_,fun h=>absurd h hk⟩
      ·rcases List.mem_cons.1 hr with rfl | hr
       ·exact hx'
       ·exact h1 r hr
      ·rcases List.mem_cons.1 hr with rfl | hr
       ·exact Classical.byContradiction fun e=>ho ⟨e1,e⟩
       ·exact h2 hk r hr e1
     ·rintro ⟨h1,h2,_⟩
      exact ⟨fun r hr=>h1 r (List.mem_cons_of_mem _ hr),fun _ r hr=>h2 hk r (List.mem_cons_of_mem _ hr),fun h=>absurd h hk⟩
theorem dec_end {n b0 b1 b2 b3:Nat} (hn:1≤n):(decodeN n b0 b1 b2 b3).2≤n∧((decodeN n b0 b1 b2 b3).1=45↔b0=45)∧ ∃v,((decodeN n b0 b1 b2 b3).1=45↔v=45)∧((decodeN n b0 b1 b2 b3).2=1→v=b0)∧((decodeN n b0 b1 b2 b3).2=2→v=b1)∧((decodeN n b0 b1 b2 b3).2=3→v=b2)∧((decodeN n b0 b1 b2 b3).2=4→v=b3)∧(decodeN n b0 b1 b2 b3).2≤4:=by
 unfold decodeN
 by_cases k0:b0<128
 ·rw [if_pos k0];exact ⟨hn,Iff.rfl,b0,Iff.rfl,(fun _=>rfl),(fun h=>by cases h),(fun h=>by cases h),(fun h=>by cases h),show 1≤4 by decide⟩
 rw [if_neg k0]
 have one:(1≤n)∧((65533:Nat)=45↔b0=45)∧ ∃v,((65533:Nat)=45↔v=45)∧((1:Nat)=1→v=b0)∧((1:Nat)=2→v=b1)∧((1:Nat)=3→v=b2)∧((1:Nat)=4→v=b3)∧(1:Nat)≤4:=
  ⟨hn,by omega,b0,by omega,(fun _=>rfl),(fun h=>by cases h),(fun h=>by cases h),(fun h=>by cases h),by decide⟩
 split
 ·rename_i h
  split
  ·exact ⟨by show 2≤n;omega,by show _=45↔_;omega,b1,by show _=45↔_;omega,(fun h=>by cases h),(fun _=>rfl),(fun h=>by cases h),(fun h=>by cases h),by show 2≤4;decide⟩
  ·exact one
 split
 ·rename_i h
  split
  ·rename_i h2
   exact ⟨by show 3≤n;omega,by show _=45↔_;omega,b2,by show _=45↔_;omega,(fun h=>by cases h),(fun h=>by cases h),(fun _=>rfl),(fun h=>by cases h),by show 3≤4;decide⟩
  ·exact one
 split
 ·rename_i h
  split
  ·rename_i h2
   exact ⟨by show 4≤n;omega,by show _=45↔_;omega,b3,by show _=45↔_;omega,(fun h=>by cases h),(fun h=>by cases h),(fun h=>by cases h),(fun _=>rfl),by show 4≤4;decide⟩
  ·exact one
 ·exact one
theorem get_byteI {s:ByteArray} {i:Nat} (h:i<s.size):byteI s i=((s.get! i).toNat:Int):=by
 have h1:i<s.data.size:=h
 have:s[i]? =some (s.get! i):=by
  show s[i]? =some (s.data[i]!)
  rw [getElem?_pos s i h,getElem!_pos s.data i h1];rfl
 rw [byteI,this];rfl
theorem dec_first {s:ByteArray} {p:Nat} (h:p<s.size):(Utf8.decode s p).1=45↔byteI s p=45:=by
 have:=(dec_end (n:=s.size-p) (b0:=(s.get! p).toNat) (b1:=(s.get! (p+1)).toNat) (b2:=(s.get! (p+2)).toNat) (b3:=(s.get! (p+3)).toNat) (by omega)).2.1
 rw [←decode_at] at this
 rw [this,get_byteI h];omega
theorem dec_last {s:ByteArray} {p:Nat} (h:p<s.size):p+(Utf8.decode s p).2≤s.size∧((Utf8.decode s p).1=45↔byteI s (p+(Utf8.decode s p).2-1)=45):=by
 have hw:=decode_wide s h
 obtain ⟨h1,_,v,h2,e1,e2,e3,e4,h4⟩:=dec_end (n:=s.size-p) (b0:=(s.get! p).toNat) (b1:=(s.get! (p+1)).toNat) (b2:=(s.get! (p+2)).toNat) (b3:=(s.get! (p+3)).toNat) (by omega)
 rw [←decode_at] at h1 h2 e1 e2 e3 e4 h4
 generalize Utf8.decode s p=x at*
 refine ⟨by omega, ?_⟩
 rw [h2,get_byteI (by omega)]
 have:x.2=1∨x.2=2∨x.2=3∨x.2=4:=by omega
 rcases this with e | e | e | e
 ·rw [e1 e,e,show p+1-1=p by omega];omega
 ·rw [e2 e,e,show p+2-1=p+1 by omega];omega
 ·rw [e3 e,e,show p+3-1=p+2 by omega];omega
 ·rw [e4 e,e,show p+4-1=p+3 by omega];omega
theorem rs_last (s:ByteArray): ∀(k p:Nat),s.size-p≤k→p<s.size→ ∃q,(rsF s p).getLast? =some (q,(Utf8.decode s q).1)∧q<s.size∧q+(Utf8.decode s q).2=s.size
 | 0,p,h,hp=>by omega
 | k+1,p,h,hp=>by
   have hw:=decode_wide s hp
   obtain ⟨hl,_⟩:=dec_last hp
   rw [rsF_lt hp]
   by_cases he:p+(Utf8.decode s p).2<s.size
   ·obtain ⟨q,h1,h2,h3⟩:=rs_last s k _ (by omega) he
    exact ⟨q,by rw [List.getLast?_cons,h1];rfl,h2,h3⟩
   ·rw [rsF_ge he]
    exact ⟨p,rfl,hp,by omega⟩
theorem run_fst {s:ByteArray} (h:0<s.size):(runI s)[0]? =some (45:Int)↔byteI s 0=45:=by
 rw [←dec_first h,runI,runesL,rsF_lt h]
 simp
 omega
theorem run_lst {s:ByteArray} (h:0<s.size):(runI s)[(runI s).length-1]? =some (45:Int)↔byteI s (s.size-1)=45:=by
 obtain ⟨q,h1,h2,h3⟩:=rs_last s s.size 0 (by omega) h
 have h4:=(dec_last h2).2
 rw [h3] at h4
 rw [←h4,←List.getLast?_eq_getElem?,runI,runesL,List.getLast?_map,List.getLast?_map,h1]
 simp
 omega
theorem run_nil {s:ByteArray} :runI s= []↔s.size=0:=by
 rw [runI,runesL,List.map_eq_nil_iff,List.map_eq_nil_iff]
 constructor
 ·intro h
  apply Classical.byContradiction
  intro h0
  rw [rsF_lt (by omega)] at h
  cases h
 ·intro h;exact rsF_ge (by omega)
theorem name_iff (s:ByteArray):checkN s=0↔NameI (runI s):=by
 have hlen:(runI s).length=(runesL s).length:=by rw [runI,List.length_map]
 have heach:(∀x∈runI s,badI x=false)↔ ∀r∈runesL s,oddR r=false:=by
  rw [runI]
  constructor
  ·intro h r hr;rw [←badI_odd];exact h _ (List.mem_map_of_mem hr)
  ·intro h x hx
   obtain ⟨r,hr,rfl⟩:=List.mem_map.1 hx
   rw [badI_odd];exact h r hr
 have hone:(∀x∈runI s,∀y∈runI s,ofR x≠0→ofR y≠0→ofR x=ofR y)↔ ∀r∈runesL s,∀q∈runesL s,ofR r≠0→ofR q≠0→ofR r=ofR q:=by
  rw [runI]
  constructor
  ·intro h r hr q hq;exact h _ (List.mem_map_of_mem hr) _ (List.mem_map_of_mem hq)
  ·intro h x hx y hy
   obtain ⟨r,hr,rfl⟩:=List.mem_map.1 hx
   obtain ⟨q,hq,rfl⟩:=List.mem_map.1 hy
   exact h r hr q hq
 unfold checkN firstN
 by_cases h24:24<(runesL s).length
 ·rw [if_pos h24]
  exact ⟨fun h=>absurd h (by decide),fun h=>by have:=h.len;omega⟩
 rw [if_neg h24]
 by_cases h0:s.size=0
 ·rw [if_pos (.inl h0)]
  exact ⟨fun h=>absurd h (by decide),fun h=>absurd (run_nil.2 h0) h.pos⟩
 have hp:0<s.size:=by omega
 have hf:=run_fst hp
 have hl:=run_lst hp
 by_cases h45:s.size=0∨byteI s 0=45∨byteI s (s.size-1)=45
 ·rw [if_pos h45]
  refine ⟨fun h=>absurd h (by decide),fun h=> ?_⟩
  rcases h45 with e | e | e
  ·exact absurd e h0
  ·exact absurd (hf.2 e) h.fst
  ·exact absurd (hl.2 e) h.lst
 rw [if_neg h45]
 have hz:=fst_zero (runesL s) 0
 by_cases he:(fstF (runesL s) 0 0).2≠0
 ·rw [if_pos he]
  refine ⟨fun h=>absurd h he,fun h=> ?_⟩
  exact absurd (hz.2 ⟨heach.1 h.each,fun e=>absurd rfl e,fun _=>hone.1 h.one⟩) he
 ·rw [if_neg he]
  have he:(fstF (runesL s) 0 0).2=0:=by simpa using he
  obtain ⟨q1,_,q3⟩:=hz.1 he
  exact ⟨fun _=>⟨by omega,fun e=>h0 (run_nil.1 e),fun e=>h45 (.inr (.inl (hf.1 e))),fun e=>h45 (.inr (.inr (hl.1 e))),heach.2 q1,hone.2 (q3 rfl)⟩,fun _=>rfl⟩
theorem rb_cons (x:Int) (l:List Int):Go.runesBytes (x::l)=Utf8.encode x++Go.runesBytes l:=by
 have key: ∀(l:List Int) (a:ByteArray),l.foldl (fun r n=>r++Utf8.encode n) a=a++l.foldl (fun r n=>r++Utf8.encode n) ByteArray.empty:=by
  intro l
  induction l with
  | nil=>intro a;exact (app_nil a).symm
  | cons y l ih=>
    intro a
    rw [List.foldl_cons,List.foldl_cons,ih,ih (ByteArray.empty++_)]
    rw [show ByteArray.empty++Utf8.encode y=Utf8.encode y from nil_app _,app_assoc]
 rw [Go.runesBytes,List.foldl_cons,key,show ByteArray.empty++Utf8.encode x=Utf8.encode x from nil_app _]
 rfl
theorem enc_list {r:Nat} (h:r<2048):(Utf8.encode (r:Int)).data.toList=if r<128 then [UInt8.ofNat r] else [UInt8.ofNat (192+r/64),UInt8.ofNat (128+r%64)]:=by
 have hv:Utf8.valid (r:Int)=true:=by
  unfold Utf8.valid
  simp;omega
 unfold Utf8.encode
 simp only [hv,if_true,Int.toNat_natCast]
 by_cases h1:r<128
 ·rw [if_pos h1,if_pos h1]
 ·rw [if_neg h1,if_neg h1,if_pos h]
theorem u8_inj {a b:Nat} (ha:a<256) (hb:b<256) (h:UInt8.ofNat a=UInt8.ofNat b):a=b:=by
 have:=congrArg UInt8.toNat h
 rw [UInt8.toNat_ofNat',UInt8.toNat_ofNat'] at this
 omega
theorem rb_inj: ∀ {xs ys:List Int},(∀x∈xs,0≤x∧x<2048)→(∀y∈ys,0≤y∧y<2048)→(Go.runesBytes xs).data.toList=(Go.runesBytes ys).data.toList→xs=ys
 | [],[],_,_,_=>rfl
 | [],y::ys,_,hy,h=>by
   obtain ⟨y1,y2⟩:=hy y List.mem_cons_self
   obtain ⟨n,rfl⟩:=Int.eq_ofNat_of_zero_le y1
   rw [rb_cons,app_list,enc_list (by omega)] at h
   exfalso
   split at h <;> cases h
 | x::xs,[],hx,_,h=>by
   obtain ⟨y1,y2⟩:=hx x List.mem_cons_self
   obtain ⟨n,rfl⟩:=Int.eq_ofNat_of_zero_le y1
   rw [rb_cons,app_list,enc_list (by omega)] at h
   exfalso
   split at h <;> cases h
 | x::xs,y::ys,hx,hy,h=>by
   obtain ⟨x1,x2⟩:=hx x List.mem_cons_self
   obtain ⟨y1,y2⟩:=hy y List.mem_cons_self
   obtain ⟨m,rfl⟩:=Int.eq_ofNat_of_zero_le x1
   obtain ⟨n,rfl⟩:=Int.eq_ofNat_of_zero_le y1
   rw [rb_cons,rb_cons,app_list,app_list,enc_list (by omega),enc_list (by omega)] at h
   have ih:=rb_inj (xs:=xs) (ys:=ys) (fun z hz=>hx z (List.mem_cons_of_mem _ hz)) (fun z hz=>hy z (List.mem_cons_of_mem _ hz))
   by_cases hm:m<128
   ·rw [if_pos hm] at h
    by_cases hn:n<128
    ·rw [if_pos hn] at h
     injection h with e1 e2
     rw [u8_inj (by omega) (by omega) e1,ih e2]
    ·rw [if_neg hn] at h
     injection h with e1 e2
     have:=u8_inj (by omega) (by omega) e1
     omega
   ·rw [if_neg hm] at h
    by_cases hn:n<128
    ·rw [if_pos hn] at h
     injection h with e1 e2
     have:=u8_inj (by omega) (by omega) e1
     omega
    ·rw [if_neg hn] at h
     injection h with e1 e2
     injection e2 with e2 e3
     have k1:=u8_inj (by omega) (by omega) e1
     have k2:=u8_inj (by omega) (by omega) e2
     rw [show m=n by omega,ih e3]
theorem lookI_rng {r:Int} (h:0≤r∧r<2048):0≤lookI r∧lookI r<2048:=by
 by_cases hm:r∈lookCs
 ·have: ∀x∈lookCs,0≤lookI x∧lookI x<2048:=by decide+kernel
  exact this r hm
 ·rw [look_not hm];exact h
theorem name_rng {xs:List Int} (h:NameI xs): ∀x∈xs,0≤x∧x<2048:=fun x hx=>by
 have:=h.each x hx
 unfold badI signR ofR at this
 simp at this
 repeat' split at this
 all_goals omega
theorem skel_iff {a b:ByteArray} (ha:NameI (runI a)) (hb:NameI (runI b)):skelB a=skelB b↔lookL a=lookL b:=by
 constructor
 ·intro h
  unfold skelB at h
  refine rb_inj (fun x hx=> ?_) (fun x hx=> ?_) (by rw [h])
  ·rw [←look_run] at hx
   obtain ⟨r,hr,rfl⟩:=List.mem_map.1 hx
   exact lookI_rng (name_rng ha r hr)
  ·rw [←look_run] at hx
   obtain ⟨r,hr,rfl⟩:=List.mem_map.1 hx
   exact lookI_rng (name_rng hb r hr)
 ·intro h;rw [skelB,skelB,h]
def ClashI (a b:ByteArray):Prop:=NameI (runI a)∧NameI (runI b)∧a≠b∧lookL a=lookL b
structure RollI (xs:List ByteArray):Prop where
 len:1≤xs.length∧xs.length≤8
 each: ∀(i:Nat) (x:ByteArray),xs[i]? =some x→NameI (runI x)∧ ∀(k:Nat) (y:ByteArray),k<i→xs[k]? =some y→y≠x∧ ¬ClashI y x
theorem prs_at' {xs:List ByteArray} {p:ByteArray×ByteArray} (hp:p∈prs xs): ∃i k:Nat,k<i∧xs[k]? =some p.1∧xs[i]? =some p.2:=by
 have key: ∀n,n≤xs.length→p∈prsK xs n→ ∃i k:Nat,k<i∧xs[k]? =some p.1∧xs[i]? =some p.2:=by
  intro n
  induction n with
  | zero=>intro _ h;cases h
  | succ n ih=>
    intro hn h
    rcases List.mem_append.1 h with h | h
    ·exact ih (by omega) h
    ·obtain ⟨a,ha,rfl⟩:=List.mem_map.1 h
     obtain ⟨k,hk⟩:=List.getElem?_of_mem ha
     rw [List.getElem?_take] at hk
     split at hk
     ·rename_i hkn
      refine ⟨n,k,hkn,hk, ?_⟩
      rw [List.getD_eq_getElem?_getD,List.getElem?_eq_getElem (by omega)]
      rfl
     ·cases hk
 exact key _ (Nat.le_refl _) hp
theorem roll_iff (xs:List ByteArray):rollB xs=true↔RollI xs:=by
 rw [rollB,Bool.and_eq_true,fineB,Bool.and_eq_true,Bool.and_eq_true,decide_eq_true_eq,decide_eq_true_eq,Bool.not_eq_true',Bool.not_eq_true',List.any_eq_false,List.any_eq_false]
 constructor
 ·rintro ⟨⟨hl,hb⟩,hno⟩
  have hnm: ∀z∈xs,NameI (runI z):=fun z hz=>(name_iff z).1 (by simpa [badN] using hb z hz)
  refine ⟨hl,fun i x hi=>⟨hnm x (List.mem_of_getElem? hi),fun k y hk hy=> ?_⟩⟩
  have h1:=hno _ (List.mem_of_getElem? (prs_at hi hy hk))
  have hx:=hnm x (List.mem_of_getElem? hi)
  have hy':=hnm y (List.mem_of_getElem? hy)
  have c1:=(name_iff x).2 hx
  have c2:=(name_iff y).2 hy'
  unfold likeB clashB at h1
  refine ⟨fun e=>h1 (by simp [e]),fun hc=>h1 ?_⟩
  have:=(skel_iff hy' hx).2 hc.2.2.2
  simp [c1,c2,this,hc.2.2.1]
 ·rintro ⟨hl,he⟩
  have hnm: ∀z∈xs,NameI (runI z):=fun z hz=>by
   obtain ⟨i,hi⟩:=List.getElem?_of_mem hz
   exact (he i z hi).1
  refine ⟨⟨hl,fun z hz=>by simpa [badN] using (name_iff z).2 (hnm z hz)⟩,fun p hp hl=> ?_⟩
  obtain ⟨i,k,hk,h1,h2⟩:=prs_at' hp
  obtain ⟨q1,q2⟩:=(he i p.2 h2).2 k p.1 hk h1
  have n1:=hnm p.1 (List.mem_of_getElem? h1)
  have n2:=hnm p.2 (List.mem_of_getElem? h2)
  rw [likeB,decide_eq_false q1,Bool.false_or,clashB] at hl
  simp only [Bool.and_eq_true,decide_eq_true_eq] at hl
  exact q2 ⟨n1,n2,q1,(skel_iff n1 n2).1 hl.2.2.2⟩
theorem lineB_up: ∀ {k:Nat} {t:ByteArray},k≤15→Tm k t→t.size<4611686018427387904→lineB (k+1) t=lineB k t
 | 0,_,_,h,_=>h.elim
 | k+1,t,hk,h,hz=>by
   obtain ⟨hd,ps,h1,h2,h3⟩:=h
   have hps:partsL t=ps:=by rw [h2];exact parts_of (by omega) h1 h3 (by rw [←h2];omega)
   have hs:t.size=hd.size+(cat ps).size:=by rw [h2,app_size]
   have e:(partsL t).map (lineB (k+1))=(partsL t).map (lineB k):=by
    rw [hps]
    exact List.map_congr_left fun p hp=>lineB_up (by omega) (h3 p hp) (by have:=cat_mem hp;omega)
   rw [lineB,lineB,e]
theorem lineB_16 {k:Nat} {t:ByteArray} (hk:k≤16) (h:Tm k t) (hz:t.size<4611686018427387904):lineB 16 t=lineB k t:=by
 have key: ∀j,k≤j→j≤16→lineB j t=lineB k t:=by
  intro j
  induction j with
  | zero=>intro h1 _;rw [show k=0 by omega]
  | succ j ih=>
    intro h1 h2
    by_cases e:k=j+1
    ·rw [e]
    ·rw [lineB_up (by omega) (h.mono (by omega)) hz,ih (by omega) (by omega)]
 exact key 16 hk (Nat.le_refl _)
def RtB (T:RT):Prop:= ∀s x,T s=some x→mayB x.1=true∧x.1.size≤16384∧s=lineB 16 x.1++x.2
theorem pP_split {T:RT} (hT:RtB T) {e:ByteArray} : ∀(k:Nat) (f:Bool) (s:ByteArray) (x:List ByteArray×ByteArray),pP T e k f s=some x→x.1.length≤k∧(∀t∈x.1,mayB t=true∧t.size≤16384)∧s=seqC sepB f (x.1.map (lineB 16))++(e++x.2):=by
 have hend: ∀ {f:Bool} {s:ByteArray} (k:Nat),preB s e=true→ ∀x,some (([]:List ByteArray),nextR s e)=some x→x.1.length≤k∧(∀t∈x.1,mayB t=true∧t.size≤16384)∧s=seqC sepB f (x.1.map (lineB 16))++(e++x.2):=by
  intro f s k hp x h
  cases h
  exact ⟨Nat.zero_le _,(fun t ht=>by cases ht),by rw [List.map_nil,seqC,nil_app];exact pre_split hp⟩
 have hstep: ∀ {k:Nat} {s:ByteArray} {y:ByteArray×ByteArray} {x:List ByteArray×ByteArray},(∀(s:ByteArray) (x:List ByteArray×ByteArray),pP T e k false s=some x→x.1.length≤k∧(∀t∈x.1,mayB t=true∧t.size≤16384)∧s=seqC sepB false (x.1.map (lineB 16))++(e++x.2))→T s=some y→cons1 y.1 (pP T e k false y.2)=some x→
     x.1.length≤k+1∧(∀t∈x.1,mayB t=true∧t.size≤16384)∧ ∃l,x.1=y.1::l∧s=(lineB 16 y.1++seqC sepB false (l.map (lineB 16)))++(e++x.2):=by
  intro k s y x ih hy h
  obtain ⟨h1,h2,h3⟩:=hT s y hy
  cases hz:pP T e k false y.2 with
  | none=>rw [hz] at h;cases h
  | some z=>
    rw [hz] at h
    cases h
    obtain ⟨g1,g2,g3⟩:=ih _ _ hz
    refine ⟨by show (y.1::z.1).length≤_;rw [List.length_cons];omega,fun t ht=> ?_,z.1,rfl, ?_⟩
    ·rcases List.mem_cons.1 ht with rfl | ht
     ·exact ⟨h1,h2⟩
     ·exact g2 t ht
    ·show s=_++(e++z.2)
     rw [app_assoc,←g3];exact h3
 intro k
 induction k with
 | zero=>
   intro f s x h
   rw [pP] at h
   split at h
   ·rename_i hp;exact hend 0 hp x h
   ·cases h
 | succ k ih=>
   intro f s x h
   rw [pP] at h
   split at h
   ·rename_i hp;exact hend (k+1) hp x h
   split at h
   ·rename_i hf
    subst hf
    obtain ⟨y,hy,h⟩:=Option.bind_eq_some_iff.1 h
    obtain ⟨g1,g2,l,g3,g4⟩:=hstep (ih false) hy h
    refine ⟨g1,g2, ?_⟩
    rw [g3,List.map_cons,seqC]
    exact g4
   split at h
   ·rename_i hf hp
    obtain rfl:f=false:=by simpa using hf
    obtain ⟨y,hy,h⟩:=Option.bind_eq_some_iff.1 h
    obtain ⟨g1,g2,l,g3,g4⟩:=hstep (ih false) hy h
    refine ⟨g1,g2, ?_⟩
    have h5:=pre_split hp
    rw [g3,List.map_cons,seqC,if_neg (by decide),app_assoc sepB,app_assoc sepB,←g4]
    exact h5
   ·cases h
theorem hd_sz {h:ByteArray} {n:Nat} (hh:Hd h n):h.size≤2000:=by
 cases hh with
 | @data t h=>have:=textB_sz (t:=t) (by omega);rw [app_size,bytesI_one];omega
 | @atom t h=>have:=textB_sz (t:=t) (by omega);rw [app_size,bytesI_one];omega
 | row h=>have:=numB_size (v:=n) (by omega);rw [app_size,bytesI_one];omega
 | hash=>decide
 | mac=>decide
 | slot=>decide
theorem made_line {hd t:ByteArray} {l:List ByteArray} (hh:Hd hd l.length) (hl: ∀p∈l,mayB p=true∧p.size≤16384) (h:madeE hd l=(t,0)):mayB t=true∧t.size≤16384∧t=hd++cat l∧partsL t=l∧l.map (lineB 15)=l.map (lineB 16):=by
 have hcs:=cat_sz (c:=16384) fun p hp=>(hl p hp).2
 have h32:=hh.le32
 have hhs:=hd_sz hh
 have hz:(hd++cat l).size<4611686018427387904:=by rw [app_size];omega
 unfold madeE at h
 split at h
 ·split at h
  ·rename_i hm
   cases h
   obtain ⟨hT,hz2⟩:=(mayB_iff hz).1 hm
   have hTl: ∀p∈l,Tm 16 p:=fun p hp=>((mayB_iff (by have:=(hl p hp).2;omega)).1 (hl p hp).1).1
   have hp1:=parts_of (Nat.le_refl 16) hh hTl hz
   obtain ⟨hd',ps,k1,k2,k3⟩:=hT
   have hp2:partsL (hd++cat l)=ps:=by rw [k2];exact parts_of (show 15≤16 by decide) k1 k3 (by rw [←k2];exact hz)
   have hlp:l=ps:=hp1.symm.trans hp2
   refine ⟨hm,hz2,rfl,hp1,List.map_congr_left fun p hp=> ?_⟩
   exact (lineB_16 (show 15≤16 by decide) (k3 p (by rw [←hlp];exact hp)) (by have:=(hl p hp).2;omega)).symm
  ·cases h
 ·cases h
theorem decodeN_less {n m b0 b1 b2 b3 c1 c2 c3:Nat} (h:(decodeN n b0 b1 b2 b3).1≠65533) (hm:(decodeN n b0 b1 b2 b3).2≤m) (hmn:m≤n) (h1:1<m→c1=b1) (h2:2<m→c2=b2) (h3:3<m→c3=b3):decodeN m b0 c1 c2 c3=decodeN n b0 b1 b2 b3:=by
 unfold decodeN at h hm⊢
 by_cases k0:b0<128
 ·rw [if_pos k0,if_pos k0]
 rw [if_neg k0] at h hm⊢
 rw [if_neg k0]
 by_cases k1:b0/32=6∧(1<n∧b1/64=2)
 ·rw [if_pos k1] at h hm⊢
  split at h
  ·rename_i g
   rw [if_pos g] at hm
   obtain rfl:=h1 (by omega)
   rw [if_pos ⟨k1.1,by omega,k1.2.2⟩]
  ·exact absurd rfl h
 rw [if_neg k1] at h hm⊢
 by_cases k2:b0/16=14∧(1<n∧b1/64=2)∧(2<n∧b2/64=2)
 ·rw [if_pos k2] at h hm⊢
  split at h
  ·rename_i g
   rw [if_pos g] at hm
   have hm:3≤m:=hm
   obtain rfl:=h1 (by omega)
   obtain rfl:=h2 (by omega)
   rw [if_neg (by omega),if_pos ⟨k2.1,⟨by omega,k2.2.1.2⟩,by omega,k2.2.2.2⟩]
  ·exact absurd rfl h
 rw [if_neg k2] at h hm⊢
 by_cases k3:b0/8=30∧(1<n∧b1/64=2)∧(2<n∧b2/64=2)∧(3<n∧b3/64=2)
 ·rw [if_pos k3] at h hm⊢
  split at h
  ·rename_i g
   rw [if_pos g] at hm
   have hm:4≤m:=hm
   obtain rfl:=h1 (by omega)
   obtain rfl:=h2 (by omega)
   obtain rfl:=h3 (by omega)
   rw [if_neg (by omega),if_neg (by omega),if_pos ⟨k3.1,⟨by omega,k3.2.1.2⟩,⟨by omega,k3.2.2.1.2⟩,by omega,k3.2.2.2.2⟩]
  ·exact absurd rfl h
 ·rw [if_neg k3] at h
  exact absurd rfl h
theorem decode_pre {x y:ByteArray} {p:Nat} (h:p<x.size) (hv:(Utf8.decode (x++y) p).1≠65533) (hw:p+(Utf8.decode (x++y) p).2≤x.size):Utf8.decode x p=Utf8.decode (x++y) p:=by
 have hs:=app_size x y
 rw [decode_at] at hv hw
 rw [decode_at,decode_at (x++y),get_app h] at*
 exact decodeN_less hv (by omega) (by omega) (fun k=>by rw [get_app (by omega)]) (fun k=>by rw [get_app (by omega)]) (fun k=>by rw [get_app (by omega)])
theorem whF_ge {q:Int→Bool} (s:ByteArray): ∀(k p:Nat),s.size-p≤k→p≤s.size→p≤whF q (rsF s p) s.size
 | k,p,h,hp=>by
   by_cases hlt:p<s.size
   ·have hw:=decode_wide s hlt
    rw [rsF_lt hlt,whF]
    split
    ·obtain ⟨hl,_⟩:=dec_last hlt
     cases k with
     | zero=>omega
     | succ k=>exact Nat.le_trans (Nat.le_add_right _ _) (whF_ge s k _ (by omega) hl)
    ·exact Nat.le_refl _
   ·rw [rsF_ge hlt,whF];exact hp
theorem while_pre {q:Int→Bool} (hq:q 65533=false) (s:ByteArray):whileN (s.extract 0 (whileN s q)) q=(s.extract 0 (whileN s q)).size:=by
 have hle:=while_le s q
 obtain ⟨n,hn⟩: ∃n,whileN s q=n:=⟨_,rfl⟩
 rw [hn] at hle⊢
 have hsp:=ext_cut s n
 generalize hx:s.extract 0 n=x at*
 generalize s.extract n s.size=y at*
 have hxs:x.size=n:=by rw [←hx,ByteArray.size_extract];omega
 have key: ∀(k p:Nat),n-p≤k→p≤n→whF q (rsF s p) s.size=n→whF q (rsF x p) x.size=n:=by
  intro k
  induction k with
  | zero=>
    intro p h1 h2 _
    rw [rsF_ge (by omega),whF];exact hxs
  | succ k ih=>
    intro p h1 h2 h3
    by_cases hp:p<n
    ·have hps:p<s.size:=by omega
     have hw:=decode_wide s hps
     obtain ⟨hl,_⟩:=dec_last hps
     rw [rsF_lt hps,whF] at h3
     by_cases hc:q ((Utf8.decode s p).1:Int)=true
     ·rw [if_pos hc] at h3
      have hge:=whF_ge (q:=q) s s.size _ (by omega) hl
      rw [h3] at hge
      have hv:(Utf8.decode s p).1≠65533:=fun e=>by
       rw [e] at hc
       have:q ((65533:Nat):Int)=false:=hq
       rw [this] at hc;cases hc
      have hd:Utf8.decode x p=Utf8.decode s p:=by
       rw [hsp] at hv hge⊢
       exact decode_pre (by omega) hv (by omega)
      rw [rsF_lt (by omega:p<x.size),whF,hd,if_pos hc]
      exact ih _ (by omega) (by omega) h3
     ·rw [if_neg hc] at h3;omega
    ·rw [rsF_ge (by omega),whF];exact hxs
 rw [hxs]
 exact key n 0 (by omega) (Nat.zero_le _) hn
theorem hexD_hv: ∀n:Fin 256,isHex n.val.toUInt8=true→hexD (hvN n.val.toUInt8)=n.val.toUInt8:=by decide+kernel
theorem hexD_of {b:UInt8} (h:isHex b=true):hexD (hvN b)=b:=by
 have:=hexD_hv ⟨b.toNat,b.toNat_lt⟩
 simp only [Nat.toUInt8_eq,UInt8.ofNat_toNat] at this
 exact this h
theorem hex_unhex: ∀l:List UInt8,(∀b∈l,isHex b=true)→l.length%2=0→hexL (unhex l)=l
 | [],_,_=>rfl
 | [_],_,h=>by simp at h
 | a::b::l,h,hl=>by
   have ha:=h a List.mem_cons_self
   have hb:=h b (List.mem_cons_of_mem _ List.mem_cons_self)
   have h1:=(hexv ha).2
   have h2:=(hexv hb).2
   have hn:((hvN a*16+hvN b).toUInt8).toNat=hvN a*16+hvN b:=by rw [Nat.toUInt8_eq,UInt8.toNat_ofNat'];omega
   rw [unhex,hexL,hn,show (hvN a*16+hvN b)/16=hvN a by omega,show (hvN a*16+hvN b)%16=hvN b by omega,hexD_of ha,hexD_of hb,hex_unhex l (fun c hc=>h c (List.mem_cons_of_mem _ (List.mem_cons_of_mem _ hc))) (by simp at hl;omega)]
theorem data_line {x t:ByteArray} (h:dataE x=(t,0)):mayB t=true∧t.size≤16384∧lineB 16 t=datumB x:=by
 have hz:=dataE_sz (s:=x)
 have hx:x.size≤1024:=by
  unfold dataE at h
  split at h
  ·cases h
  ·omega
 have hm:=data_may hx
 have hde:(dataE x).1=bytesI [100]++textB x:=by rw [dataE,if_neg (by omega)];rfl
 rw [h] at hz hm hde
 have hde:t=bytesI [100]++textB x:=hde
 have hm:mayB t=true:=hm
 have hk:kindN t=1:=by rw [kindN,if_pos hm,hde,byte0_one (by decide) (by decide)];rfl
 refine ⟨hm,hz, ?_⟩
 rw [lineB,if_pos hk]
 rw [hde] at hm⊢
 rw [text_of (.inl rfl) hx hm]
theorem atom_line {x t:ByteArray} (h:atomE x=(t,0)):mayB t=true∧t.size≤16384∧lineB 16 t=(⟨#[36]⟩:ByteArray)++x:=by
 unfold atomE at h
 split at h
 ·cases h
 rename_i h32
 split at h
 rotate_left
 ·cases h
 rename_i hn
 cases h
 have hx:x.size≤32:=by omega
 have hts:=textB_sz (t:=x) (by omega)
 have hz:(bytesI [97]++textB x).size≤16384:=by rw [app_size,bytesI_one];omega
 have hm:mayB (bytesI [97]++textB x)=true:=(mayB_iff (by omega)).2 ⟨⟨bytesI [97]++textB x,[],Hd.atom hx hn,(app_nil _).symm,fun p hp=>by cases hp⟩,hz⟩
 have hk:kindN (bytesI [97]++textB x)=2:=by rw [kindN,if_pos hm,byte0_one (by decide) (by decide)];rfl
 refine ⟨hm,hz, ?_⟩
 show lineB 16 (bytesI [97]++textB x)=_
 rw [lineB,if_neg (by rw [hk];decide),if_pos hk,text_of (.inr rfl) (by omega) hm]
theorem had_some {e:ByteArray×Int} {r:ByteArray} {x:ByteArray×ByteArray} (h:hadO e r=some x):e=(x.1,0)∧r=x.2:=by
 unfold hadO at h
 split at h
 ·rename_i h0;cases h;exact ⟨by rw [←h0],rfl⟩
 ·cases h
theorem kind_at {c:Int} {t y:ByteArray} (hm:mayB t=true) (ht:t=bytesI [c]++y) (h0:0≤c) (h1:c<256):kindN t=kindB c∧t.extract 0 1=bytesI [c]:=by
 rw [kindN,if_pos hm,ht,byte0_one h0 h1]
 exact ⟨rfl,ext_left (bytesI [c]) y⟩
theorem parts_line {c:Int} {t:ByteArray} {l:List ByteArray} (hc:c=104∨c=109∨c=115) (hm:mayB t=true) (ht:t=bytesI [c]++cat l) (hp:partsL t=l) (h15:l.map (lineB 15)=l.map (lineB 16)):lineB 16 t=((bytesI [c]++⟨#[40]⟩)++seqC sepB true (l.map (lineB 16)))++⟨#[41]⟩:=by
 obtain ⟨hk,hx⟩:=kind_at hm ht (by omega) (by omega)
 have h456:kindB c=4∨kindB c=5∨kindB c=6:=by rcases hc with rfl | rfl | rfl <;> simp [kindB]
 rw [lineB,if_neg (by rw [hk];omega),if_neg (by rw [hk];omega),if_neg (by rw [hk];omega),hx,hp,h15]
theorem pT_split: ∀f:Nat,RtB (pT f)
 | 0,s,x,h=>by cases h
 | f+1,s,x,h=>by
   rw [pT] at h
   split at h
   ·rename_i hp
    have h0:=pre_split hp
    obtain ⟨h1,h2⟩:=had_some h
    obtain ⟨h3,h4,h5⟩:=atom_line h1
    refine ⟨h3,h4, ?_⟩
    rw [h5,←h2,app_assoc,←ext_cut];exact h0
   split at h
   ·rename_i hp
    have h0:=pre_split hp
    obtain ⟨y,hy,h⟩:=Option.bind_eq_some_iff.1 h
    obtain ⟨h1,h2⟩:=had_some h
    obtain ⟨h3,h4,h5⟩:=data_line h1
    refine ⟨h3,h4, ?_⟩
    unfold bytesR at hy
    split at hy
    rotate_left
    ·cases hy
    rename_i hev
    split at hy
    ·cases hy
    rename_i hpl
    cases hy
    have hcut:=ext_cut (nextR s ⟨#[120]⟩) (whileN (nextR s ⟨#[120]⟩) hexQ)
    have hall:=hex_all (nextR s ⟨#[120]⟩)
    have hlen:((nextR s ⟨#[120]⟩).extract 0 (whileN (nextR s ⟨#[120]⟩) hexQ)).data.toList.length%2=0:=by
     rw [ba_len,ByteArray.size_extract]
     have:=while_le (nextR s ⟨#[120]⟩) hexQ
     omega
    have hh:=hex_unhex _ hall hlen
    simp only at h2 h5
    rw [h5,datumB,if_neg hpl,←h2]
    have e:(⟨(120::hexL (bs (unhex ((nextR s ⟨#[120]⟩).extract 0 (whileN (nextR s ⟨#[120]⟩) hexQ)).data.toList)).data.toList).toArray⟩:ByteArray)=(⟨#[120]⟩:ByteArray)++(nextR s ⟨#[120]⟩).extract 0 (whileN (nextR s ⟨#[120]⟩) hexQ):=by
     apply ba_ext
     rw [app_list]
     show 120::hexL (unhex _)=_
     rw [hh];rfl
    rw [e,app_assoc,←hcut];exact h0
   split at h
   ·rename_i hp
    have h0:=pre_split hp
    unfold quO at h
    split at h
    rotate_left
    ·cases h
    rename_i hq
    have hq0:=pre_split hq
    obtain ⟨h1,h2⟩:=had_some h
    obtain ⟨h3,h4,h5⟩:=data_line h1
    refine ⟨h3,h4, ?_⟩
    have hpl:plainB ((nextR s ⟨#[34]⟩).extract 0 (whileN (nextR s ⟨#[34]⟩) plainR))=true:=by
     rw [plainB,while_pre (by decide)];simp
    have hcut:=ext_cut (nextR s ⟨#[34]⟩) (whileN (nextR s ⟨#[34]⟩) plainR)
    rw [h5,datumB,if_pos hpl,←h2,app_assoc,app_assoc,←hq0,←hcut];exact h0
   split at h
   ·rename_i hp
    have h0:=pre_split hp
    obtain ⟨y,hy,h⟩:=Option.bind_eq_some_iff.1 h
    obtain ⟨g1,g2,g3⟩:=pP_split (pT_split f) 32 true _ y hy
    obtain ⟨h1,h2⟩:=had_some h
    have hrow:(⟨#[114]⟩:ByteArray)++numB y.1.length=bytesI [114]++numB y.1.length:=rfl
    rw [hrow] at h1
    obtain ⟨h3,h4,h5,h6,h7⟩:=made_line (Hd.row g1) g2 h1
    refine ⟨h3,h4, ?_⟩
    obtain ⟨hk,_⟩:=kind_at h3 (h5.trans (app_assoc _ _ _)) (by decide) (by decide)
    have hk3:kindN x.1=3:=hk
    rw [lineB,if_neg (by omega),if_neg (by omega),if_pos hk3,h6,h7,←h2,app_assoc,app_assoc,←g3];exact h0
   split at h
   ·cases h
   rename_i hs1
   split at h
   rotate_left
   ·cases h
   rename_i hp
   have h0:=pre_split hp
   have hcut:=ext_cut s 1
   obtain ⟨y,hy,h⟩:=Option.bind_eq_some_iff.1 h
   obtain ⟨g1,g2,g3⟩:=pP_split (pT_split f) 32 true _ y hy
   have hfin: ∀ {c:Int} {p:ByteArray},(c=104∨c=109∨c=115)→bytesI [c]=p→s.extract 0 1=p→Hd p y.1.length→hadO (madeE p y.1) y.2=some x→mayB x.1=true∧x.1.size≤16384∧s=lineB 16 x.1++x.2:=by
    intro c p hc hcp hsp hhd h
    obtain ⟨h1,h2⟩:=had_some h
    obtain ⟨h3,h4,h5,h6,h7⟩:=made_line hhd g2 h1
    refine ⟨h3,h4, ?_⟩
    subst hcp
    rw [parts_line hc h3 h5 h6 h7,←h2,app_assoc,app_assoc,app_assoc,←g3,←h0,←hsp];exact hcut
   unfold kindO at h
   split at h
   ·rename_i a hy1
    split at h
    ·rename_i hk
     exact hfin (c:=104) (.inl rfl) rfl hk (by rw [hy1];exact Hd.hash) (by rw [hy1];exact h)
    ·cases h
   ·rename_i a b hy1
    split at h
    ·rename_i hk
     exact hfin (c:=109) (.inr (.inl rfl)) rfl hk (by rw [hy1];exact Hd.mac) (by rw [hy1];exact h)
    ·cases h
   ·rename_i a b c hy1
    split at h
    ·rename_i hk
     exact hfin (c:=115) (.inr (.inr rfl)) rfl hk (by rw [hy1];exact Hd.slot) (by rw [hy1];exact h)
    ·cases h
   ·cases h
theorem parse_lineE {s:ByteArray} (h:(parseE s).2=0):lineE (parseE s).1=(s,0)∧mayB (parseE s).1=true:=by
 unfold parseE at h⊢
 cases hp:pT 16 s with
 | none=>rw [hp] at h;cases h
 | some x=>
   rw [hp] at h
   simp only at h⊢
   split at h
   ·rename_i h0
    rw [if_pos h0]
    obtain ⟨h1,h2,h3⟩:=pT_split 16 s x hp
    rw [h0,app_nil] at h3
    exact ⟨by rw [lineE,if_pos h1,←h3],h1⟩
   ·cases h
theorem term_split {s sg:ByteArray} {x:ByteArray×ByteArray} (h:termO s sg=some x):termV x.1=some (lineE x.1).1∧mayB x.1=true∧s=(lineE x.1).1++x.2:=by
 unfold termO at h
 split at h
 rotate_left
 ·cases h
 rename_i h0
 cases h
 obtain ⟨h1,h2⟩:=parse_lineE h0
 refine ⟨by rw [termV,h1];rfl,h2, ?_⟩
 show s=(lineE _).1++_
 rw [h1];exact ext_cut s _
theorem dmay_ok (M:Mem) (L:HL) (t:ByteArray) (hz:t.size<4611686018427387904):TrQ Tryz.prog 116 [.string t] M L (.bool (mayB t)):=by
 have he:(refCheck t==0)=mayB t:=by rw [refCheck_eq t hz];unfold mayB;rw [Bool.eq_iff_iff];simp
 refine Tr.intro 6 Tryz.func116 rfl rfl Tryz.call116 rfl ?_;intro C hC hro
 repeat (first | refine zz ?_ | refine zx fun _=> ?_ | refine rq (qt_callF rfl (fun _=>refCheck_ok _ _ t hz)) ?_)
 exact run_ret hC (rs:= [.tmp 2]) rfl (resT rfl resN) (fun _ h=>h) ⟨by rw [←he];rfl,rfl,rfl⟩
theorem dkind_ok (M:Mem) (L:HL) (t:ByteArray) (hz:t.size<4611686018427387904):TrQ Tryz.prog 150 [.string t] M L (.int .u8 (kindN t)):=by
 refine Tr.intro 18 Tryz.func150 rfl rfl Tryz.call150 rfl ?_;intro C hC hro
 repeat (first | refine zz ?_ | refine zx fun _=> ?_ | refine rq (qt_callF rfl (fun _=>dmay_ok _ _ t hz)) ?_)
 refine run_cond (t:= !mayB t) rfl (fun h=> ?_) (fun h=> ?_)
 ·have hf:mayB t=false:=by simpa using h
  repeat (first | refine zz ?_ | refine zx fun _=> ?_)
  exact run_ret hC (rs:= [.tmp 2]) rfl (resT rfl resN) (fun _ h=>h) ⟨by rw [kindN,if_neg (by rw [hf];decide)];rfl,rfl,rfl⟩
 have ht:mayB t=true:=by simpa using h
 obtain ⟨h1,h2⟩:=(mayB_iff hz).1 ht
 obtain ⟨c,hc1,hc2⟩:=byte_at (i:=0) (show 0<t.size from h1.pos)
 have hkn:kindN t=kindB (c.toNat:Int):=by rw [kindN,if_pos ht,hc2]
 rw [hkn] at hC
 have hby:=h1.byte
 rw [hc2] at hby
 clear hkn hc2
 unfold kindB at hC
 repeat (first | refine zz ?_ | refine zx fun _=> ?_ | refine rq (qt_strIndex (n:=0) (b:=c) tok rfl rfl rfl (fun _=>hc1)) ?_)
 refine run_cond (t:=(c.toNat:Int)==100) rfl (fun h=> ?_) (fun h=> ?_)
 ·rw [if_pos (by simpa using h)] at hC
  repeat (first | refine zz ?_ | refine zx fun _=> ?_)
  exact run_ret hC (rs:= [.tmp 2]) rfl (resT rfl resN) (fun _ h=>h) ⟨rfl,rfl,rfl⟩
 rw [if_neg (by simpa using h)] at hC
 repeat (first | refine zz ?_ | refine zx fun _=> ?_)
 refine run_cond (t:=(c.toNat:Int)==97) rfl (fun h=> ?_) (fun h=> ?_)
 ·rw [if_pos (by simpa using h)] at hC
  repeat (first | refine zz ?_ | refine zx fun _=> ?_)
  exact run_ret hC (rs:= [.tmp 2]) rfl (resT rfl resN) (fun _ h=>h) ⟨rfl,rfl,rfl⟩
 rw [if_neg (by simpa using h)] at hC
 repeat (first | refine zz ?_ | refine zx fun _=> ?_)
 refine run_cond (t:=(c.toNat:Int)==114) rfl (fun h=> ?_) (fun h=> ?_)
 ·rw [if_pos (by simpa using h)] at hC
  repeat (first | refine zz ?_ | refine zx fun _=> ?_)
  exact run_ret hC (rs:= [.tmp 2]) rfl (resT rfl resN) (fun _ h=>h) ⟨rfl,rfl,rfl⟩
 rw [if_neg (by simpa using h)] at hC
 repeat (first | refine zz ?_ | refine zx fun _=> ?_)
 refine run_cond (t:=(c.toNat:Int)==104) rfl (fun h=> ?_) (fun h=> ?_)
 ·rw [if_pos (by simpa using h)] at hC
  repeat (first | refine zz ?_ | refine zx fun _=> ?_)
  exact run_ret hC (rs:= [.tmp 2]) rfl (resT rfl resN) (fun _ h=>h) ⟨rfl,rfl,rfl⟩
 rw [if_neg (by simpa using h)] at hC
 repeat (first | refine zz ?_ | refine zx fun _=> ?_)
 refine run_cond (t:=(c.toNat:Int)==109) rfl (fun h=> ?_) (fun h=> ?_)
 ·rw [if_pos (by simpa using h)] at hC
  repeat (first | refine zz ?_ | refine zx fun _=> ?_)
  exact run_ret hC (rs:= [.tmp 2]) rfl (resT rfl resN) (fun _ h=>h) ⟨rfl,rfl,rfl⟩
 rw [if_neg (by simpa using h)] at hC
 repeat (first | refine zz ?_ | refine zx fun _=> ?_)
 exact run_ret hC (rs:= [.tmp 2]) rfl (resT rfl resN) (fun _ h=>h) ⟨rfl,rfl,rfl⟩
theorem dtext_ok (M:Mem) (L:HL) (t:ByteArray) (hz:t.size<4611686018427387904):TrQ Tryz.prog 151 [.string t] M L (.tuple ⟨[.string (textN t).1,.bool (textN t).2]⟩):=by
 have hc:mayB t=true→t[0]? =some ((t[0]?).getD 0):=fun hm=>by
  obtain ⟨c,h1,_⟩:=byte_at (i:=0) (show 0<t.size from ((mayB_iff hz).1 hm).1.pos)
  rw [h1];rfl
 have hb:byte t 0=(((t[0]?).getD 0).toNat:Int):=rfl
 generalize (t[0]?).getD 0=c at hc hb
 refine Tr.intro 28 Tryz.func151 rfl rfl Tryz.call151 rfl ?_;intro C hC hro
 repeat (first | refine zz ?_ | refine zx fun _=> ?_ | refine rq (qt_callF rfl (fun _=>dmay_ok _ _ t hz)) ?_ | refine rg rfl rfl (qt_strIndex (n:=0) (b:=c) tok rfl rfl rfl (fun hy=>hc (by have h1:(!mayB t)=false:=hy.1;simpa using h1))) ?_ | refine rg rfl rfl (qt_strIndex (n:=0) (b:=c) tok rfl rfl rfl (fun hy=>hc (by have h1:(!mayB t)=false:=hy.2.1;simpa using h1))) ?_)
 refine run_cond (t:=(!mayB t)||(((c.toNat:Int) !=100)&&((c.toNat:Int) !=97))) rfl (fun h=> ?_) (fun h=> ?_)
 ·have hn:textN t=(⟨#[]⟩,false):=by
   unfold textN
   rw [if_neg]
   rintro ⟨h1,h2⟩
   rw [hb] at h2
   rw [h1] at h
   simp only [Bool.not_true,Bool.false_or,Bool.and_eq_true,bne_iff_ne] at h
   omega
  repeat (first | refine zz ?_ | refine zx fun _=> ?_)
  exact run_ret hC (rs:= [.tmp 2,.tmp 3]) rfl (resT rfl (resT rfl resN)) (fun _ h=>h) ⟨by rw [hn];rfl,rfl,rfl⟩
 have hm:mayB t=true:=by
  cases hm:mayB t with
  | true=>rfl
  | false=>rw [hm] at h;simp at h
 have hp:=((mayB_iff hz).1 hm).1.pos
 have hn:textN t=((textR (rest1 t) 1024).1,true):=by
  unfold textN
  rw [if_pos]
  refine ⟨hm, ?_⟩
  rw [hb]
  rw [hm] at h
  simp only [Bool.not_true,Bool.false_or,Bool.and_eq_false_iff,bne_eq_false_iff_eq] at h
  exact h
 have hte:=refText_ok M L (rest1 t) 1024 (by rw [rest1_size];omega) (by decide)
 rw [refText_eq] at hte
 repeat (first | refine zz ?_ | refine zx fun _=> ?_ | refine rq (qt_strLo (n:=1) tok rfl rfl rfl (fun _=>hp)) ?_ | refine rq (qt_callF rfl (fun _=>hte)) ?_)
 exact run_ret hC (rs:= [.tmp 2,.tmp 3]) rfl (resT rfl (resT rfl resN)) (fun _ h=>h) ⟨by rw [hn];rfl,rfl,rfl⟩
theorem stC_oneL (x:ByteArray): ∀u∈stC x,u.oneCell'=true:=by intro u hu;simp [stC] at hu;subst hu;rfl
theorem stC_snoc (l:List ByteArray) (x:ByteArray):((l++ [x]).map stC).flatten=(l.map stC).flatten++stC x:=by simp
theorem dparts_ok (M:Mem) (L:HL) (k:Nat) (hk:k≤15) (hd:ByteArray) (ps:List ByteArray) (h1:Hd hd ps.length) (h3: ∀p∈ps,Tm k p) (hz:(hd++cat ps).size≤1000000):
 Tr Tryz.prog 192 [.string (hd++cat ps)] M L (fun v M' L'=>M=M'∧ ∃N,L'=N++L∧OS 9 1 v ps.length (ps.map stC).flatten N):=by
 have hrow:=h1.le32
 have hh:=head_eq (hd++cat ps) (by omega)
 rw [hd_front h1] at hh
 have hln:(hd++cat ps).size=hd.size+(cat ps).size:=app_size _ _
 generalize hS:hd++cat ps=S at hh hln hz⊢
 simp only at hh
 refine Tr.intro 41 Tryz.func192 rfl rfl Tryz.call192 rfl ?_;intro C hC hro
 repeat (first | refine zz ?_ | refine zx fun _=> ?_ | refine rq (Qt.as (v':= .tuple ⟨[iv hd.size,iv ps.length,.int .i64 0]⟩) (qt_callF rfl (fun _=>head_ok _ _ S (by omega))) (by rw [hh])) ?_)
 refine run_loopN (fun j σ1 M1 L1=>j≤ps.length∧M=M1∧ ∃a c N,L1=N++L∧OS 9 1 (.slice a j c) j ((ps.take j).map stC).flatten N∧σ1= [(7,iv j),(6,.slice a j c),(3,iv (hd.size+(cat (ps.take j)).size)),(4,iv ps.length),(0,.string S)]) ps.length [(7,iv 0),(6,.slice none 0 0),(3,iv hd.size),(4,iv ps.length),(0,.string S)] ?_ ⟨Nat.zero_le _,rfl,_,_,[],rfl,OS.nil _ _,rfl⟩ (fun j _ _ _ h=>h.1) ?_
 ·exact ⟨rfl,rfl,rfl,rfl,rfl,trivial⟩
 rintro j _ _ _ ⟨hj,rfl,a,c,N,rfl,hO,rfl⟩ hnext
 repeat (first | refine zz ?_ | refine zx fun _=> ?_)
 refine run_cond rfl (fun h5=> ?_) (fun h5=> ?_)
 ·have hik:j<ps.length:=by simpa using h5
  obtain ⟨q,hq⟩: ∃q,ps[j]? =some q:=⟨_,List.getElem?_eq_getElem hik⟩
  have hqm:=List.mem_of_getElem? hq
  have htk:ps.take (j+1)=ps.take j++ [q]:=by rw [List.take_add_one,hq];rfl
  have hcat:cat ps=cat (ps.take j)++(q++cat (ps.drop (j+1))):=by
   conv=>lhs;rw [←List.take_append_drop (j+1) ps,cat_app,htk,cat_app]
   rw [cat,cat,app_nil,app_assoc]
  have hS3:(hd++cat (ps.take j))++(q++cat (ps.drop (j+1)))=S:=by rw [←hS,hcat,app_assoc]
  have hx3:(hd++cat (ps.take j)).size=hd.size+(cat (ps.take j)).size:=app_size _ _
  have hx4:S.size=(hd++cat (ps.take j)).size+(q.size+(cat (ps.drop (j+1))).size):=by rw [←hS3];simp only [app_size]
  have hex:S.extract (hd.size+(cat (ps.take j)).size) S.size=q++cat (ps.drop (j+1)):=by rw [←hx3,←hS3];exact ext_right _ _
  have hem:S.extract (hd.size+(cat (ps.take j)).size) (hd.size+(cat (ps.take j)).size+q.size)=q:=by rw [←hx3,←hS3];exact ext_mid _ _ _
  have hrd:=read_at (h3 q hqm) (by omega) (cat (ps.drop (j+1))) (by rw [app_size];omega)
  have hcall:=fun L=>refread_ok M 16 (by decide) L (q++cat (ps.drop (j+1))) (by rw [app_size];omega)
  rw [hrd,←hex] at hcall
  generalize hn:hd.size+(cat (ps.take j)).size=n at*
  have hadd:IntKind.i64.wrap ((n:Int)+(q.size:Int))=((n+q.size:Nat):Int):=by
   rw [show (n:Int)+(q.size:Int)=((n+q.size:Nat):Int) by omega,wrap64_nat (by omega)]
  repeat (first | refine zz ?_ | refine zx fun _=> ?_ | refine rq (qt_strLo (n:=n) tok rfl rfl rfl (fun _=>by omega)) ?_ | refine rq (qt_callF rfl (fun _=>hcall _)) ?_ | refine rq (Qt.as (v':= .string q) (qt_strMid (m:=n) (n:=n+q.size) tok rfl rfl rfl (by rw [←hadd];rfl) (fun _=>by omega)) (congrArg Value.string hem)) ?_)
  rename_i b1
  have hidx:iv (hd.size+(cat (ps.take (j+1))).size)= .int .i64 (IntKind.i64.wrap ((n:Int)+(q.size:Int))):=by rw [hadd,htk,cat_app,app_size,cat,cat,app_nil,←Nat.add_assoc,hn]
  repeat (first | refine zz ?_ | refine zx fun _=> ?_ | (refine ro (st_append (news:=stC q) (m:=1) tok rfl rfl rfl rfl rfl rfl rfl rfl (L0:=(b1,.cells ⟨[.string q]⟩ 9 (0,0))::L) (List.perm_middle (l₁:=N)).symm hO (.inr ⟨b1,0,1,rfl,cellsAll List.mem_cons_self,rfl⟩) (stC_oneL q) (by omega) (by omega)) ?_;rintro v3 _ _ ⟨N',rfl,rfl,hO3⟩;obtain ⟨a3,c3,rfl⟩:=osH hO3))
  refine run_mem (L':=N'++L) (fun _ h=>(h.perm (List.perm_middle (l₁:=N'))).drop) (run_sub' (hnext _ _ _ ⟨hik,rfl,a3,c3,N',rfl,by rw [htk,stC_snoc];exact hO3,rfl⟩) ⟨lk_succ rfl (by omega),rfl,by show _=some (iv _);rw [hidx];rfl,rfl,rfl,trivial⟩)
 ·have hik:j=ps.length:=by simp at h5;omega
  subst hik
  rw [List.take_length] at hO
  repeat (first | refine zz ?_ | refine zx fun _=> ?_)
  exact run_ret hC (rs:= [.tmp 2]) rfl (resT rfl resN) (fun _ h=>h) ⟨rfl,N,rfl,hO⟩
theorem refPlainc_ok (M:Mem) (L:HL) (r:Int):TrQ Tryz.prog 220 [.int .i32 r] M L (.bool (plainR r)):=by
 refine Tr.intro 29 Tryz.func220 rfl rfl Tryz.call220 rfl ?_;intro C hC hro
 repeat (first | refine yy ?_ | refine yx fun _=> ?_)
 refine run_ret hC (rs:= [.tmp 2]) rfl (resT rfl resN) (fun _ h=>h) ⟨?_,rfl,rfl⟩
 show Value.bool ((((decide (r≥32)&&decide (r≤126))&&(r !=34))||(decide (r≥161)&&decide (r≤687)))||(decide (r≥880)&&decide (r≤1279)))=Value.bool (plainR r)
 congr 1
 unfold plainR
 rw [Bool.eq_iff_iff]
 simp
 omega
theorem refPlain_ok (M:Mem) (L:HL) (s:ByteArray):TrQ Tryz.prog 191 [.string s] M L (.bool (plainB s)):=by
 refine Tr.intro 13 Tryz.func191 rfl rfl Tryz.call191 rfl ?_;intro C hC hro
 repeat (first | refine yy ?_ | refine yx fun _=> ?_ | (refine runL_op (st_rangeS tok rfl rfl) rfl rfl rfl ?_;rintro _ _ _ ⟨b,rfl,rfl,rfl⟩))
 refine run_loopN (fun i σ1 M1 L1=>i≤s.size∧ ∃p,i≤p∧whF plainR (rsF s p) s.size=whileN s plainR∧σ1= [(6,pt b)]∧M=M1∧L1=(b,.stringIter s p)::L) s.size [(6,pt b)] ?_ ⟨Nat.zero_le _,0,Nat.le_refl _,rfl,rfl,rfl,rfl⟩ (fun j _ _ _ h=>h.1) ?_
 ·exact ⟨rfl,trivial⟩
 rintro i _ _ _ ⟨hi,p,hip,hn,rfl,rfl,rfl⟩ hnext
 by_cases hlt:p<s.size
 ·have hwd:=decode_wide s hlt
  rw [rsF_lt hlt,whF] at hn
  repeat (first | refine yy ?_ | refine yx fun _=> ?_ | (refine runL_op (st_nextS rfl (by (repeat (first | with_reducible apply Upd.here | with_reducible apply Upd.there | with_reducible apply Upd.append_left))) hlt) rfl rfl rfl ?_;rintro _ _ _ ⟨rfl,rfl,rfl⟩) | refine run_cond (t:=true) rfl (fun _=> ?_) (fun h=>by cases h) | refine qc (refPlainc_ok _ _ _) ?_)
  refine run_cond (t:= !plainR ((Utf8.decode s p).1:Int)) rfl (fun h3=> ?_) (fun h3=> ?_)
  ·rw [if_neg (by simpa using h3)] at hn
   have hf:plainB s=false:=by rw [plainB,←hn];simp;omega
   repeat (first | refine yy ?_ | refine yx fun _=> ?_)
   exact run_ret hC (rs:= [.tmp 2]) rfl (resT rfl resN) (fun _ h=>h.drop) ⟨by rw [hf];rfl,rfl,rfl⟩
  ·rw [if_pos (by simpa using h3)] at hn
   repeat (first | refine yy ?_ | refine yx fun _=> ?_)
   exact run_sub' (hnext _ _ _ ⟨by omega,_,by omega,hn,rfl,rfl,rfl⟩) ⟨rfl,trivial⟩
 ·rw [rsF_ge hlt,whF] at hn
  have hf:plainB s=true:=by rw [plainB,←hn];simp
  repeat (first | refine yy ?_ | refine yx fun _=> ?_ | refine runL_q (qt_nextEnd rfl (by (repeat (first | with_reducible apply List.mem_cons_self | with_reducible assumption | with_reducible apply List.mem_cons_of_mem | with_reducible apply List.mem_append_right))) hlt) rfl rfl rfl ?_ | refine run_cond (t:=false) rfl (fun h=>by cases h) (fun _=> ?_))
  exact run_ret hC (rs:= [.tmp 2]) rfl (resT rfl resN) (fun _ h=>h.drop) ⟨by rw [hf];rfl,rfl,rfl⟩
theorem d16_div (b:UInt8):Value.int .u8 (IntKind.u8.wrap ((b.toNat:Int).tdiv 16))= .int .u8 ((b.toNat/16:Nat):Int):=by
 have:=b.toNat_lt
 rw [Int.tdiv_eq_ediv_of_nonneg (by omega),show (b.toNat:Int)/16=((b.toNat/16:Nat):Int) by omega,u8_nat (by omega)]
theorem d16_mod (b:UInt8):Value.int .u8 ((b.toNat:Int).tmod 16)= .int .u8 ((b.toNat%16:Nat):Int):=by
 rw [Int.tmod_eq_emod_of_nonneg (by omega),show (b.toNat:Int)%16=((b.toNat%16:Nat):Int) by omega]
def hexS (s:ByteArray) (j:Nat):ByteArray:=⟨(120::hexL (s.data.toList.take j)).toArray⟩
theorem hexS_sz (s:ByteArray) (j:Nat):(hexS s j).size≤2*s.size+1:=by
 have:(hexS s j).size=(120::hexL (s.data.toList.take j)).length:=by rw [←ba_len,hexS]
 rw [this,List.length_cons,hexL_len,List.length_take,ba_len];omega
theorem hexS_snoc {s:ByteArray} {j:Nat} {b:UInt8} (h:s.data.toList[j]? =some b):hexS s j++bytesI [((hexD (b.toNat/16)).toNat:Int),((hexD (b.toNat%16)).toNat:Int)]=hexS s (j+1):=by
 apply ba_ext
 have e: ∀x y:ByteArray,(x++y).data.toList=x.data.toList++y.data.toList:=fun x y=>by simp
 rw [e,bytesI_list,hexS,hexS,hexL_snoc h]
 simp
theorem refDatum_ok (M:Mem) (L:HL) (s:ByteArray) (hs:s.size<1000000):TrQ Tryz.prog 152 [.string s] M L (.string (datumB s)):=by
 have h1:(⟨#[34]⟩:ByteArray).size=1:=rfl
 refine Tr.intro 31 Tryz.func152 rfl rfl Tryz.call152 rfl ?_;intro C hC hro
 repeat (first | refine yy ?_ | refine yx fun _=> ?_ | refine qc (refPlain_ok _ _ s) ?_)
 refine run_cond (t:=plainB s) rfl (fun h=> ?_) (fun h=> ?_)
 ·have hc1:(⟨#[34]⟩:ByteArray).size+s.size<4611686018427387904:=by omega
  have hc2:((⟨#[34]⟩:ByteArray)++s).size+(⟨#[34]⟩:ByteArray).size<4611686018427387904:=by rw [app_size];omega
  repeat (first | refine yy ?_ | refine yx fun _=> ?_)
  exact run_ret hC (rs:= [.tmp 2]) rfl (resT rfl resN) (fun _ h=>h) ⟨by rw [datumB,if_pos h];rfl,rfl,rfl⟩
 repeat (first | refine yy ?_ | refine yx fun _=> ?_)
 refine run_loopN (fun j σ1 M1 L1=>j≤s.size∧M=M1∧L=L1∧σ1= [(4,iv j),(3,.string (hexS s j)),(0,.string s)]) s.size [(4,iv 0),(3,.string (hexS s 0)),(0,.string s)] ?_ ⟨Nat.zero_le _,rfl,rfl,rfl⟩ (fun j _ _ _ h=>h.1) ?_
 ·exact ⟨rfl,rfl,rfl,trivial⟩
 rintro j _ _ _ ⟨hj,rfl,rfl,rfl⟩ hnext
 repeat (first | refine yy ?_ | refine yx fun _=> ?_)
 refine run_cond (t:=decide ((j:Int)<(s.size:Int))) rfl (fun h2=> ?_) (fun h2=> ?_)
 ·have hlt:j<s.size:=by have:=of_decide_eq_true h2;omega
  obtain ⟨b,hb⟩: ∃b:UInt8,s[j]? =some b:=⟨_,getElem?_pos s j hlt⟩
  have hb256:=b.toNat_lt
  have hx1:hexT[b.toNat/16]? =some (hexD (b.toNat/16)):=hex_at ⟨b.toNat/16,by omega⟩
  have hx2:hexT[b.toNat%16]? =some (hexD (b.toNat%16)):=hex_at ⟨b.toNat%16,by omega⟩
  have hbl:s.data.toList[j]? =some b:=by
   have h1:=(getElem?_eq_some_iff.1 hb)
   obtain ⟨h1,h2⟩:=h1
   rw [List.getElem?_eq_getElem (by simpa using h1)]
   exact congrArg some h2
  have hz:=hexS_sz s j
  have hz2:(bytesI [((hexD (b.toNat/16)).toNat:Int),((hexD (b.toNat%16)).toNat:Int)]).size=2:=rfl
  repeat (first | refine yy ?_ | refine dd ?_ | refine yd ?_ | refine yx fun _=> ?_ | refine pq rfl ((qt_quo rfl rfl (fun _=>by decide)).as (d16_div b)) ?_ | refine pq rfl ((qt_rem rfl rfl (fun _=>by decide)).as (d16_mod b)) ?_ | refine pq rfl (qt_strIndex tok rfl rfl rfl (fun _=>hx1)) ?_ | refine pq rfl (qt_strIndex tok rfl rfl rfl (fun _=>hx2)) ?_ | refine pq rfl (qt_bytesStr tok [((hexD (b.toNat/16)).toNat:Int),((hexD (b.toNat%16)).toNat:Int)] rfl rfl rfl rfl (cellsAll List.mem_cons_self) rfl) ?_)
  refine run_mem (fun _ h=>h.drop) ?_
  exact run_sub' (hnext _ _ _ ⟨hlt,rfl,rfl,rfl⟩) ⟨lk_succ rfl (by omega),by rw [←hexS_snoc hbl];rfl,rfl,trivial⟩
 ·have hge:j=s.size:=by have:=of_decide_eq_false h2;omega
  subst hge
  repeat (first | refine yy ?_ | refine yx fun _=> ?_)
  refine run_ret hC (rs:= [.tmp 2]) rfl (resT rfl resN) (fun _ h=>h) ⟨?_,rfl,rfl⟩
  rw [datumB,if_neg (by simp [h]),hexS,List.take_of_length_le (by rw [ba_len];exact Nat.le_refl _)]
  rfl
theorem rText_ok (M:Mem) (L:HL) (s:ByteArray) (hs:s.size<2305843009213693952):TrQ Tryz.prog 149 [.string s] M L (.string (textB s)):=by
 have hz:=numB_size (v:=s.size) (by omega)
 have e1:IntKind.u64.wrap (s.size:Int)=(s.size:Int):=u64_nat (by omega)
 refine Tr.intro 9 Tryz.func149 rfl rfl Tryz.call149 rfl ?_;intro C hC hro
 repeat (first | refine yy ?_ | refine yx fun _=> ?_)
 refine runL_as 5 (.int .u64 (s.size:Int)) rfl (by rw [e1]) ?_
 repeat (first | refine yy ?_ | refine yx fun _=> ?_ | refine qc (num_ok _ _ s.size (by omega)) ?_)
 exact run_ret hC (rs:= [.tmp 2]) rfl (resT rfl resN) (fun _ h=>h) ⟨rfl,rfl,rfl⟩
theorem refData_ok (M:Mem) (L:HL) (s:ByteArray) (hs:s.size<1000000000):TrQ Tryz.prog 119 [.string s] M L (.tuple ⟨[.string (dataE s).1,.int .i64 (dataE s).2]⟩):=by
 have hz:=textB_sz (t:=s) (by omega)
 have h1:(⟨#[100]⟩:ByteArray).size=1:=rfl
 refine Tr.intro 10 Tryz.func119 rfl rfl Tryz.call119 rfl ?_;intro C hC hro
 repeat (first | refine yy ?_ | refine yx fun _=> ?_)
 refine run_cond (t:=decide ((s.size:Int)>1024)) rfl (fun h=> ?_) (fun h=> ?_)
 ·have he:dataE s=(⟨#[]⟩,5):=if_pos (by have:=of_decide_eq_true h;omega)
  repeat (first | refine yy ?_ | refine yx fun _=> ?_)
  exact run_ret hC (rs:= [.tmp 2,.tmp 3]) rfl (resT rfl (resT rfl resN)) (fun _ h=>h) ⟨by rw [he];rfl,rfl,rfl⟩
 have he:dataE s=((⟨#[100]⟩:ByteArray)++textB s,0):=if_neg (by have:=of_decide_eq_false h;omega)
 repeat (first | refine yy ?_ | refine yx fun _=> ?_ | refine qc (rText_ok _ _ s (by omega)) ?_)
 exact run_ret hC (rs:= [.tmp 2,.tmp 3]) rfl (resT rfl (resT rfl resN)) (fun _ h=>h) ⟨by rw [he];rfl,rfl,rfl⟩
theorem refParts_ok (M:Mem) (L:HL) (t:ByteArray) (ht:mayB t=true) (hz:t.size≤20000):Tr Tryz.prog 153 [.string t] M L (fun v M' L'=>M.le M'∧L'=L∧ ∃s:SStr,v= .tuple ⟨[s.v,.bool true]⟩∧StOk M' s∧s.xs=partsL t):=by
 obtain ⟨hT,hz2⟩:=(mayB_iff (by omega)).1 ht
 obtain ⟨hd,ps,k1,k2,k3⟩:=hT
 have hps:partsL t=ps:=by rw [k2];exact parts_of (show 15≤16 by decide) k1 k3 (by rw [←k2];omega)
 have h32:=k1.le32
 rw [hps]
 have hp:=fun L=>dparts_ok M L 15 (by decide) hd ps k1 k3 (by rw [←k2];omega)
 rw [←k2] at hp
 refine Tr.intro 9 Tryz.func153 rfl rfl Tryz.call153 rfl ?_;intro C hC hro
 repeat (first | refine yy ?_ | refine yx fun _=> ?_ | refine qc (dmay_ok _ _ t (by omega)) ?_)
 refine run_cond (t:=false) (by show some (Value.bool _)=_;simp [ht]) (fun h=>by cases h) (fun _=> ?_)
 repeat (first | refine yy ?_ | refine yx fun _=> ?_ | (refine oc (hp _) ?_;rintro v M1 _ ⟨rfl,N,rfl,hO⟩;obtain ⟨av,cv,rfl⟩:=osH hO))
 refine run_retE hC (rs:= [.tmp 2,.tmp 3]) rfl (resT rfl (resT rfl resN)) fun w hw=> ?_
 obtain ⟨M2,a2,c2,q1,q2,q3,q4⟩:=hw.freezeOS hO (by simp) (fun c hc=>by obtain ⟨x,_,rfl⟩:=List.mem_map.1 hc;rfl)
 refine ⟨M2,L,q2,q1,rfl,⟨a2,ps.length,c2,ps⟩, ?_,⟨q4,by show ps.length<1000000;omega⟩,rfl⟩
 show Value.tuple ⟨[_,_]⟩=_
 rw [q3]
 rfl
theorem hd_first {h:ByteArray} {n:Nat} (hh:Hd h n) (x:ByteArray): ∃c y,(c=100∨c=97∨c=114∨c=104∨c=109∨c=115)∧h++x=bytesI [c]++y:=by
 cases hh with
 | data=>exact ⟨100,_,.inl rfl,app_assoc _ _ _⟩
 | atom=>exact ⟨97,_,.inr (.inl rfl),app_assoc _ _ _⟩
 | row=>exact ⟨114,_,.inr (.inr (.inl rfl)),app_assoc _ _ _⟩
 | hash=>exact ⟨104,_,.inr (.inr (.inr (.inl rfl))),rfl⟩
 | mac=>exact ⟨109,_,.inr (.inr (.inr (.inr (.inl rfl)))),rfl⟩
 | slot=>exact ⟨115,_,.inr (.inr (.inr (.inr (.inr rfl)))),rfl⟩
theorem refLineT_ok: ∀(k:Nat),k≤16→ ∀(t:ByteArray),Tm k t→t.size≤16384→ ∀(M:Mem) (L:HL),TrQ Tryz.prog 120 [.string t,.int .i64 ((17-k:Nat):Int),.int .i64 16] M L (.string (lineB k t))
 | 0,_,_,h,_,_,_=>h.elim
 | k+1,hk,t,hT,hz,M,L=>by
   have hmay:mayB t=true:=(mayB_iff (by omega)).2 ⟨hT.mono hk,hz⟩
   have hpos:=hT.pos
   have hkd:kindN t=kindB (byte t 0):=by rw [kindN,if_pos hmay]
   have htz:=ttextsz t
   have h2s:(⟨#[36]⟩:ByteArray).size+(textN t).1.size<4611686018427387904:=by show 1+_<_;omega
   have hls:=line_size (k+1) hk t hT (by omega)
   have h84:4+5*(k+1)≤84:=by omega
   have hl4:(4+5*(k+1))*t.size≤84*16384:=Nat.mul_le_mul h84 hz
   have hB1:kindN t=1→lineB (k+1) t=datumB (textN t).1:=fun h=>by rw [lineB,if_pos h]
   have hB2:kindN t=2→lineB (k+1) t=(⟨#[36]⟩:ByteArray)++(textN t).1:=fun h=>by rw [lineB,if_neg (by omega),if_pos h]
   obtain ⟨hh,ps,k1,k2,k3⟩:=hT
   have hps:partsL t=ps:=by rw [k2];exact parts_of (by omega) k1 k3 (by rw [←k2];omega)
   have hB3:kindN t≠1→kindN t≠2→lineB (k+1) t=if kindN t=3 then ((⟨#[91]⟩:ByteArray)++seqC sepB true (ps.map (lineB k)))++⟨#[93]⟩else ((t.extract 0 1++⟨#[40]⟩)++seqC sepB true (ps.map (lineB k)))++⟨#[41]⟩:=fun h1 h2=>by
    rw [lineB,if_neg h1,if_neg h2,hps]
   have hsz0:kindN t≠1→kindN t≠2→(seqC sepB true (ps.map (lineB k))).size≤2000000:=fun h1 h2=>by
    rw [hB3 h1 h2] at hls
    split at hls
    ·rw [app_size,app_size] at hls;omega
    ·rw [app_size,app_size] at hls;omega
   have ih: ∀x:ByteArray,Tm k x→x.size≤16384→ ∀(M:Mem) (L:HL),TrQ Tryz.prog 120 [.string x,.int .i64 ((17-k:Nat):Int),.int .i64 16] M L (.string (lineB k x)):=refLineT_ok k (by omega)
   clear hls hl4 h84
   generalize lineB (k+1) t=r at*
   generalize lineB k=f at*
   refine Tr.intro 76 Tryz.func120 rfl rfl Tryz.call120 rfl ?_;intro C hC hro
   repeat (first | refine yy ?_ | refine yx fun _=> ?_)
   refine run_cond (t:=decide (((17-(k+1):Nat):Int)>16)) rfl (fun h=>by have:=of_decide_eq_true h;omega) (fun _=> ?_)
   repeat (first | refine yy ?_ | refine yx fun _=> ?_ | refine qc (dkind_ok _ _ t (by omega)) ?_ | refine qc (dtext_ok _ _ t (by omega)) ?_)
   refine run_cond (t:=kindN t==1) rfl (fun h=> ?_) (fun h1=> ?_)
   ·have hdz:(textN t).1.size<1000000:=by omega
    repeat (first | refine yy ?_ | refine yx fun _=> ?_ | refine qc (refDatum_ok _ _ (textN t).1 hdz) ?_)
    refine run_ret hC (rs:= [.tmp 6]) rfl (resT rfl resN) (fun _ h=>h) ⟨?_,rfl,rfl⟩
    rw [hB1 (by simpa using h)];rfl
   repeat (first | refine yy ?_ | refine yx fun _=> ?_)
   refine run_cond (t:=kindN t==2) rfl (fun h=> ?_) (fun h2=> ?_)
   ·repeat (first | refine yy ?_ | refine yx fun _=> ?_)
    exact run_ret hC (rs:= [.tmp 6]) rfl (resT rfl resN) (fun _ h=>h) ⟨by rw [hB2 (by simpa using h)];rfl,rfl,rfl⟩
   have hB:=hB3 (by simpa using h1) (by simpa using h2)
   have hsz:=hsz0 (by simpa using h1) (by simpa using h2)
   have hall': ∀j,(seqC sepB true ((ps.take j).map f)).size≤(seqC sepB true (ps.map f)).size:=fun j=>by
    rw [List.map_take];exact seqC_le _ _ _ _
   clear hB1 hB2 hB3 hsz0
   repeat (first | refine yy ?_ | refine yx fun _=> ?_ | (refine oc (refParts_ok _ _ t hmay (by omega)) ?_;rintro _ M1 L1 ⟨hM1,hL1,s,rfl,hso,hsx⟩;rw [hL1];clear hL1))
   obtain ⟨sa,sn,sc,xs⟩:=s
   obtain rfl:xs=ps:=by rw [←hps];exact hsx
   have hsn:xs.length=sn:=hso.len
   have h6:sn<1000000:=hso.2
   have hsl:SlM M1 1 sa sn (xs.map stC):=hso.1
   clear hso hsx
   refine run_loopN (fun j σ1 M2 L3=>j≤sn∧M1=M2∧L=L3∧σ1= [(13,iv j),(10,.string (seqC sepB true ((xs.take j).map f))),(11,.slice sa sn sc),(7,.int .u8 (kindN t)),(1,.int .i64 ((17-(k+1):Nat):Int)),(2,.int .i64 16)]) sn [(13,iv 0),(10,.string (seqC sepB true ((xs.take 0).map f))),(11,.slice sa sn sc),(7,.int .u8 (kindN t)),(1,.int .i64 ((17-(k+1):Nat):Int)),(2,.int .i64 16)] ?_ ⟨Nat.zero_le _,rfl,rfl,rfl⟩ (fun j _ _ _ h=>h.1) ?_
   ·exact ⟨rfl,rfl,rfl,rfl,rfl,rfl,trivial⟩
   rintro j _ _ _ ⟨hj,rfl,rfl,rfl⟩ hnext
   have hlj:=hall' j
   repeat (first | refine yy ?_ | refine yx fun _=> ?_)
   refine run_cond (t:=decide ((j:Int)<(sn:Int))) rfl (fun h5=> ?_) (fun h5=> ?_)
   ·have hlt:j<sn:=by have:=of_decide_eq_true h5;omega
    obtain ⟨bb,off,x,rfl,hx,hc⟩:=SStr.at_ hsl hlt
    have hxm:=List.mem_of_getElem? hx
    have hsn':=seqC_snoc sepB (f x) ((xs.take j).map f) true
    rw [←List.map_singleton,←List.map_append,←take_snoc hx] at hsn'
    have hlj2:=hall' (j+1)
    have hs2':sepB.size=2:=rfl
    have hw:IntKind.i64.wrap (((17-(k+1):Nat):Int)+1)=((17-k:Nat):Int):=by rw [wrap64_succ (by omega),show 17-(k+1)+1=17-k by omega]
    have hxz:x.size≤16384:=by have h1:=cat_mem hxm;have h2:=app_size hh (cat xs);rw [←k2] at h2;omega
    have hacc:(if j=0 then seqC sepB true ((xs.take j).map f)else seqC sepB true ((xs.take j).map f)++sepB)++f x=seqC sepB true ((xs.take (j+1)).map f):=by
     rw [hsn']
     by_cases h0:j=0
     ·subst h0;rfl
     ·have he:((xs.take j).map f).isEmpty=false:=by
       rw [List.isEmpty_eq_false_iff,ne_eq,List.map_eq_nil_iff,List.take_eq_nil_iff]
       rintro (h | h)
       ·exact h0 h
       ·rw [h] at hsn;simp at hsn;omega
      rw [if_neg h0,he,app_assoc];rfl
    have hasz:=congrArg ByteArray.size hacc
    rw [app_size] at hasz
    repeat (first | refine yy ?_ | refine yx fun _=> ?_)
    refine run_condI (fun σ' M' L'=>M1=M'∧L=L'∧σ'= [(10,.string (if j=0 then seqC sepB true ((xs.take j).map f)else seqC sepB true ((xs.take j).map f)++sepB)),(13,iv j),(11,.slice (some ⟨bb,off,none⟩) sn sc),(7,.int .u8 (kindN t)),(1,.int .i64 ((17-(k+1):Nat):Int)),(2,.int .i64 16)]) (t:=decide ((j:Int)>0)) rfl (fun h hk=> ?_) (fun h hk=> ?_) ?_
    ·have hj0:j≠0:=by have:=of_decide_eq_true h;omega
     have hcc:(seqC sepB true ((xs.take j).map f)).size+(⟨#[44,32]⟩:ByteArray).size<4611686018427387904:=by show _+2<_;omega
     refine yy ?_
     refine yy ?_
     refine yy ?_
     refine yy ?_
     refine yy ?_
     exact run_sub' (hk _ _ _ ⟨rfl,rfl,rfl⟩) ⟨by rw [if_neg hj0];rfl,rfl,rfl,rfl,rfl,rfl,trivial⟩
    ·have hj0:j=0:=by have:=of_decide_eq_false h;omega
     refine yy ?_
     exact run_sub' (hk _ _ _ ⟨rfl,rfl,rfl⟩) ⟨by rw [if_pos hj0];rfl,rfl,rfl,rfl,rfl,rfl,trivial⟩
    rintro _ _ _ ⟨rfl,rfl,rfl⟩
    repeat (first | refine yy ?_ | refine yx fun _=> ?_)
    refine runL_as 53 (.int .i64 ((17-k:Nat):Int)) rfl (congrArg (Value.int .i64) hw) ?_
    refine qc (ih x (k3 x hxm) hxz _ _) ?_
    have hcc2:(if j=0 then seqC sepB true ((xs.take j).map f)else seqC sepB true ((xs.take j).map f)++sepB).size+(f x).size<4611686018427387904:=by omega
    repeat (first | refine yy ?_ | refine yx fun _=> ?_)
    exact run_sub' (hnext _ _ _ ⟨hlt,rfl,rfl,rfl⟩) ⟨lk_succ rfl (by omega),by rw [←hacc];rfl,rfl,rfl,rfl,rfl,trivial⟩
   ·have hge:j=sn:=by have:=of_decide_eq_false h5;omega
    subst hge
    rw [List.take_of_length_le (by omega)]
    obtain ⟨c,y,hc,hty⟩:=hd_first k1 (cat xs)
    rw [←k2] at hty
    have hkc:kindN t=kindB c:=by rw [hkd,hty,byte0_one (by rcases hc with h | h | h | h | h | h <;> omega) (by rcases hc with h | h | h | h | h | h <;> omega)]
    have hex:t.extract 0 1=bytesI [c]:=by rw [hty];exact ext_left (bytesI [c]) y
    have hsq:=hsz
    generalize seqC sepB true (xs.map f)=Q at*
    have q1: ∀(z:ByteArray),z.size≤2→z.size+Q.size<4611686018427387904:=fun z hz=>by omega
    have q2: ∀(z u:ByteArray),z.size≤2→u.size≤1→(z++Q).size+u.size<4611686018427387904:=fun z u hz hu=>by rw [app_size];omega
    repeat (first | refine yy ?_ | refine yx fun _=> ?_)
    refine run_cond (t:=kindN t==4) rfl (fun h=> ?_) (fun h4=> ?_)
    ·have h:kindN t=4:=by simpa using h
     have hc4:c=104:=by rw [hkc] at h;rcases hc with rfl | rfl | rfl | rfl | rfl | rfl <;> first | rfl | (exact absurd h (by decide))
     have c1:=q1 ⟨#[104,40]⟩ (by decide)
     have c2:=q2 ⟨#[104,40]⟩ ⟨#[41]⟩ (by decide) (by decide)
     repeat (first | refine yy ?_ | refine yx fun _=> ?_)
     exact run_ret hC (rs:= [.tmp 6]) rfl (resT rfl resN) (fun _ h=>h.of_le hM1) ⟨by rw [hB,if_neg (by rw [h];decide),hex,hc4];rfl,rfl,rfl⟩
    repeat (first | refine yy ?_ | refine yx fun _=> ?_)
    refine run_cond (t:=kindN t==5) rfl (fun h=> ?_) (fun h5=> ?_)
    ·have h:kindN t=5:=by simpa using h
     have hc4:c=109:=by rw [hkc] at h;rcases hc with rfl | rfl | rfl | rfl | rfl | rfl <;> first | rfl | (exact absurd h (by decide))
     have c1:=q1 ⟨#[109,40]⟩ (by decide)
     have c2:=q2 ⟨#[109,40]⟩ ⟨#[41]⟩ (by decide) (by decide)
     repeat (first | refine yy ?_ | refine yx fun _=> ?_)
     exact run_ret hC (rs:= [.tmp 6]) rfl (resT rfl resN) (fun _ h=>h.of_le hM1) ⟨by rw [hB,if_neg (by rw [h];decide),hex,hc4];rfl,rfl,rfl⟩
    repeat (first | refine yy ?_ | refine yx fun _=> ?_)
    refine run_cond (t:=kindN t==6) rfl (fun h=> ?_) (fun h6=> ?_)
    ·have h:kindN t=6:=by simpa using h
     have hc4:c=115:=by rw [hkc] at h;rcases hc with rfl | rfl | rfl | rfl | rfl | rfl <;> first | rfl | (exact absurd h (by decide))
     have c1:=q1 ⟨#[115,40]⟩ (by decide)
     have c2:=q2 ⟨#[115,40]⟩ ⟨#[41]⟩ (by decide) (by decide)
     repeat (first | refine yy ?_ | refine yx fun _=> ?_)
     exact run_ret hC (rs:= [.tmp 6]) rfl (resT rfl resN) (fun _ h=>h.of_le hM1) ⟨by rw [hB,if_neg (by rw [h];decide),hex,hc4];rfl,rfl,rfl⟩
    have h3:kindN t=3:=by
     have h1':kindN t≠1:=by simpa using h1
     have h2':kindN t≠2:=by simpa using h2
     have h4':kindN t≠4:=by simpa using h4
     have h5':kindN t≠5:=by simpa using h5
     have h6':kindN t≠6:=by simpa using h6
     rw [hkc] at h1' h2' h4' h5' h6'⊢
     rcases hc with rfl | rfl | rfl | rfl | rfl | rfl
     ·exact absurd rfl h1'
     ·exact absurd rfl h2'
     ·rfl
     ·exact absurd rfl h4'
     ·exact absurd rfl h5'
     ·exact absurd rfl h6'
    have c1:=q1 ⟨#[91]⟩ (by decide)
    have c2:=q2 ⟨#[91]⟩ ⟨#[93]⟩ (by decide) (by decide)
    repeat (first | refine yy ?_ | refine yx fun _=> ?_)
    exact run_ret hC (rs:= [.tmp 6]) rfl (resT rfl resN) (fun _ h=>h.of_le hM1) ⟨by rw [hB,if_pos h3];rfl,rfl,rfl⟩
theorem refBrief_ok (M:Mem) (L:HL) (t:ByteArray) (hz:t.size<1000000):TrQ Tryz.prog 80 [.string t,iv 16] M L (.tuple ⟨[.string (lineE t).1,.int .i64 (lineE t).2]⟩):=by
 refine Tr.intro 12 Tryz.func80 rfl rfl Tryz.call80 rfl ?_;intro C hC hro
 repeat (first | refine yy ?_ | refine yx fun _=> ?_ | refine qc (dmay_ok _ _ t (by omega)) ?_)
 refine run_cond (t:= !mayB t) rfl (fun h=> ?_) (fun h=> ?_)
 ·have h0:mayB t=false:=by simpa using h
  repeat (first | refine yy ?_ | refine yx fun _=> ?_)
  exact run_ret hC (rs:= [.tmp 4,.tmp 5]) rfl (resT rfl (resT rfl resN)) (fun _ h=>h) ⟨by rw [lineE,if_neg (by rw [h0];decide)];rfl,rfl,rfl⟩
 have h0:mayB t=true:=by simpa using h
 obtain ⟨hT,hz2⟩:=(mayB_iff (by omega)).1 h0
 repeat (first | refine yy ?_ | refine yx fun _=> ?_ | refine qc (refLineT_ok 16 (Nat.le_refl _) t hT hz2 _ _) ?_)
 exact run_ret hC (rs:= [.tmp 4,.tmp 5]) rfl (resT rfl (resT rfl resN)) (fun _ h=>h) ⟨by rw [lineE,if_pos h0];rfl,rfl,rfl⟩
theorem refLine_ok (M:Mem) (L:HL) (t:ByteArray) (hz:t.size<1000000):TrQ Tryz.prog 39 [.string t] M L (.tuple ⟨[.string (lineE t).1,.int .i64 (lineE t).2]⟩):=by
 refine Tr.intro 8 Tryz.func39 rfl rfl Tryz.call39 rfl ?_;intro C hC hro
 repeat (first | refine yy ?_ | refine yx fun _=> ?_ | refine qc (refBrief_ok _ _ t hz) ?_)
 exact run_ret hC (rs:= [.tmp 2,.tmp 3]) rfl (resT rfl (resT rfl resN)) (fun _ h=>h) ⟨rfl,rfl,rfl⟩
def frN (s ls:ByteArray):Nat:=(s.data.toList.takeWhile fun b=>ls.data.toList.any fun c=>c==b).length
theorem frN_le (s ls:ByteArray):frN s ls≤s.size:=by
 rw [frN,←ba_len];exact (List.takeWhile_sublist _).length_le
theorem tw_step {α:Type} {p:α→Bool} : ∀ {l:List α} {i:Nat} {b:α},i≤(l.takeWhile p).length→l[i]? =some b→(p b=true→i+1≤(l.takeWhile p).length)∧(p b=false→(l.takeWhile p).length=i)
 | [],i,b,_,h=>by cases h
 | x::l,i,b,hi,h=>by
   rw [List.takeWhile_cons] at hi⊢
   by_cases hx:p x=true
   ·rw [if_pos hx] at hi⊢
    cases i with
    | zero=>
      rw [List.getElem?_cons_zero] at h
      obtain rfl:=Option.some.inj h
      exact ⟨fun _=>by rw [List.length_cons];omega,fun hb=>by rw [hx] at hb;cases hb⟩
    | succ i=>
      rw [List.getElem?_cons_succ] at h
      rw [List.length_cons] at hi⊢
      obtain ⟨h1,h2⟩:=tw_step (p:=p) (l:=l) (i:=i) (by omega) h
      exact ⟨fun hb=>by have:=h1 hb;omega,fun hb=>by rw [h2 hb]⟩
   ·rw [if_neg hx] at hi⊢
    have hi0:i=0:=by simpa using hi
    subst hi0
    rw [List.getElem?_cons_zero] at h
    obtain rfl:=Option.some.inj h
    exact ⟨fun hb=>absurd hb hx,fun _=>rfl⟩
theorem u8_beq (b c:UInt8):(((b.toNat:Nat):Int)==((c.toNat:Nat):Int))=(b==c):=by
 rw [Bool.eq_iff_iff,beq_iff_eq,beq_iff_eq]
 exact ⟨fun e=>UInt8.toNat_inj.1 (by omega),fun e=>by rw [e]⟩
theorem rfront_ok (M:Mem) (L:HL) (s ls:ByteArray) (hs:s.size<1000000) (hl:ls.size<1000000):TrQ Tryz.prog 204 [.string s,.string ls] M L (iv (frN s ls)):=by
 have hle:=frN_le s ls
 have hst:=fun (i:Nat) (b:UInt8) (h:i≤frN s ls) (hb:s.data.toList[i]? =some b)=>tw_step (p:=fun b=>ls.data.toList.any fun c=>c==b) (l:=s.data.toList) (i:=i) (b:=b) h hb
 have hdef:(s.data.toList.takeWhile fun b=>ls.data.toList.any fun c=>c==b).length=frN s ls:=rfl
 rw [hdef] at hst
 clear hdef
 generalize frN s ls=F at*
 have hsl:=ba_len s
 have hll:=ba_len ls
 refine Tr.intro 34 Tryz.func204 rfl rfl Tryz.call204 rfl ?_;intro C hC hro
 repeat (first | refine yy ?_ | refine yx fun _=> ?_)
 refine run_loopN (fun i σ1 M1 L1=>i≤s.size∧M=M1∧L=L1∧i≤F∧σ1= [(5,iv i),(0,.string s),(1,.string ls)]) s.size [(5,iv 0),(0,.string s),(1,.string ls)] ?_ ⟨Nat.zero_le _,rfl,rfl,Nat.zero_le _,rfl⟩ (fun j _ _ _ h=>h.1) ?_
 ·exact ⟨rfl,rfl,rfl,trivial⟩
 rintro i _ _ _ ⟨hi,rfl,rfl,hiF,rfl⟩ hnext
 repeat (first | refine yy ?_ | refine yx fun _=> ?_)
 refine run_cond (t:=decide ((i:Int)<(s.size:Int))) rfl (fun h=> ?_) (fun h=> ?_)
 rotate_left
 ·have hge:F=i:=by have:=of_decide_eq_false h;omega
  rw [hge] at hC
  repeat (first | refine yy ?_ | refine yx fun _=> ?_)
  exact run_ret hC (rs:= [.tmp 4]) rfl (resT rfl resN) (fun _ h=>h) ⟨rfl,rfl,rfl⟩
 have hlt:i<s.size:=by have:=of_decide_eq_true h;omega
 obtain ⟨b,hbe⟩: ∃b,s[i]? =some b:=⟨_,getElem?_pos s i hlt⟩
 obtain ⟨hs1,hs2⟩:=hst i b hiF (by rw [←ba_get];exact hbe)
 repeat (first | refine yy ?_ | refine yx fun _=> ?_)
 refine run_loopN (fun j σ1 M1 L1=>j≤ls.size∧M=M1∧L=L1∧σ1= [(7,iv j),(6,.bool ((ls.data.toList.take j).any fun c=>c==b)),(5,iv i),(0,.string s),(1,.string ls)]) ls.size [(7,iv 0),(6,.bool false),(5,iv i),(0,.string s),(1,.string ls)] ?_ ⟨Nat.zero_le _,rfl,rfl,rfl⟩ (fun j _ _ _ h=>h.1) ?_
 ·exact ⟨rfl,rfl,rfl,rfl,rfl,trivial⟩
 rintro j _ _ _ ⟨hj,rfl,rfl,rfl⟩ hnext2
 repeat (first | refine yy ?_ | refine yx fun _=> ?_)
 refine run_cond (t:=decide ((j:Int)<(ls.size:Int))) rfl (fun h=> ?_) (fun h=> ?_)
 ·have hlt2:j<ls.size:=by have:=of_decide_eq_true h;omega
  obtain ⟨c,hce⟩: ∃c,ls[j]? =some c:=⟨_,getElem?_pos ls j hlt2⟩
  have hcl:ls.data.toList[j]? =some c:=by rw [←ba_get];exact hce
  repeat (first | refine yy ?_ | refine dd ?_ | refine yd ?_ | refine yx fun _=> ?_)
  refine run_sub' (hnext2 _ _ _ ⟨hlt2,rfl,rfl,rfl⟩) ⟨lk_succ rfl (by omega), ?_,rfl,rfl,rfl,trivial⟩
  rw [List.take_add_one,hcl,List.any_append]
  show some (Value.bool (_||(((c.toNat:Nat):Int)==((b.toNat:Nat):Int))))=_
  rw [u8_beq]
  simp
 ·have hge:j=ls.size:=by have:=of_decide_eq_false h;omega
  rw [hge,List.take_of_length_le (by omega)]
  generalize (ls.data.toList.any fun c=>c==b)=t at*
  repeat (first | refine yy ?_ | refine yx fun _=> ?_)
  refine run_cond (t:= !t) rfl (fun h=> ?_) (fun h=> ?_)
  ·have hF:F=i:=hs2 (by simpa using h)
   rw [hF] at hC
   repeat (first | refine yy ?_ | refine yx fun _=> ?_)
   exact run_ret hC (rs:= [.tmp 4]) rfl (resT rfl resN) (fun _ h=>h) ⟨rfl,rfl,rfl⟩
  ·have hF:=hs1 (by simpa using h)
   repeat (first | refine yy ?_ | refine yx fun _=> ?_)
   exact run_sub' (hnext _ _ _ ⟨hlt,rfl,rfl,hF,rfl⟩) ⟨lk_succ rfl (by omega),rfl,rfl,trivial⟩
theorem refAtom_ok (M:Mem) (L:HL) (s:ByteArray) (hs:s.size<1000000):TrQ Tryz.prog 205 [.string s] M L (.tuple ⟨[.string (atomE s).1,.int .i64 (atomE s).2]⟩):=by
 have hz:=textB_sz (t:=s) (by omega)
 have h1:(⟨#[97]⟩:ByteArray).size=1:=rfl
 have hn:=fun L=>name_ok M L s (by omega)
 rw [name_eq] at hn
 have hdef:atomE s=if 32<s.size then (⟨#[]⟩,5)else if namedR s=true then ((⟨#[97]⟩:ByteArray)++textB s,0)else (⟨#[]⟩,7):=rfl
 generalize namedR s=nb at*
 generalize atomE s=e at*
 refine Tr.intro 13 Tryz.func205 rfl rfl Tryz.call205 rfl ?_;intro C hC hro
 repeat (first | refine yy ?_ | refine yx fun _=> ?_)
 refine run_cond (t:=decide ((s.size:Int)>32)) rfl (fun h=> ?_) (fun h=> ?_)
 ·rw [if_pos (by have:=of_decide_eq_true h;omega)] at hdef
  repeat (first | refine yy ?_ | refine yx fun _=> ?_)
  exact run_ret hC (rs:= [.tmp 2,.tmp 3]) rfl (resT rfl (resT rfl resN)) (fun _ h=>h) ⟨by rw [hdef];rfl,rfl,rfl⟩
 rw [if_neg (by have:=of_decide_eq_false h;omega)] at hdef
 repeat (first | refine yy ?_ | refine yx fun _=> ?_ | refine qc (hn _) ?_)
 refine run_cond (t:= !nb) rfl (fun h=> ?_) (fun h=> ?_)
 ·rw [if_neg (by simpa using h)] at hdef
  repeat (first | refine yy ?_ | refine yx fun _=> ?_)
  exact run_ret hC (rs:= [.tmp 2,.tmp 3]) rfl (resT rfl (resT rfl resN)) (fun _ h=>h) ⟨by rw [hdef];rfl,rfl,rfl⟩
 rw [if_pos (by simpa using h)] at hdef
 repeat (first | refine yy ?_ | refine yx fun _=> ?_ | refine qc (rText_ok _ _ s (by omega)) ?_)
 exact run_ret hC (rs:= [.tmp 2,.tmp 3]) rfl (resT rfl (resT rfl resN)) (fun _ h=>h) ⟨by rw [hdef];rfl,rfl,rfl⟩
def abcT:ByteArray:=⟨#[97,98,99,100,101,102,103,104,105,106,107,108,109,110,111,112,113,114,115,116,117,118,119,120,121,122,48,49,50,51,52,53,54,55,56,57,47,46,45]⟩
def rdR (o:Option (ByteArray×ByteArray)) (s:ByteArray) (v:Value):Prop:= ∃(t:ByteArray) (n:Nat),v= .tuple ⟨[.string t,iv n]⟩∧n≤s.size∧t.size≤16384∧ ∀x,o=some x→t=x.1∧n+x.2.size=s.size
theorem fr_while {s ls:ByteArray} {q:Int→Bool} (hq: ∀r,q r=true→r<128) (h: ∀b:UInt8,q (b.toNat:Int)=ls.data.toList.any fun c=>c==b):whileN s q=frN s ls:=by
 rw [while_tw s q hq,twL,frN]
 congr 2
 funext b
 exact h b
theorem atom_set: ∀n:Fin 256,atomQ ((n.val.toUInt8).toNat:Int)=abcT.data.toList.any fun c=>c==n.val.toUInt8:=by decide+kernel
theorem hex_set: ∀n:Fin 256,hexQ ((n.val.toUInt8).toNat:Int)=hexT.data.toList.any fun c=>c==n.val.toUInt8:=by decide+kernel
theorem of_fin {P:UInt8→Prop} (h: ∀n:Fin 256,P n.val.toUInt8) (b:UInt8):P b:=by
 have:=h ⟨b.toNat,b.toNat_lt⟩
 simp only [Nat.toUInt8_eq,UInt8.ofNat_toNat] at this
 exact this
theorem atom_fr (s:ByteArray):whileN s atomQ=frN s abcT:=fr_while atomQ_lt (of_fin atom_set)
theorem hex_fr (s:ByteArray):whileN s hexQ=frN s hexT:=fr_while hexQ_lt (of_fin hex_set)
theorem ext_size {s:ByteArray} {n:Nat} (h:n≤s.size):(s.extract 0 n).size=n:=by rw [ByteArray.size_extract];omega
theorem ext_rest (s:ByteArray) (n:Nat):(s.extract n s.size).size=s.size-n:=by rw [ByteArray.size_extract];omega
theorem ratom_ok (M:Mem) (L:HL) (s:ByteArray) (hs:s.size<1000000):Tr Tryz.prog 167 [.string s] M L (fun v M' L'=>M=M'∧L'=L∧rdR (atO s) s v):=by
 have hle:=frN_le s abcT
 have hat:atO s=hadO (atomE (s.extract 0 (frN s abcT))) (s.extract (frN s abcT) s.size):=by rw [atO,atom_fr]
 have hfr:=fun L=>rfront_ok M L s abcT hs (by decide)
 have hsz:(atomE (s.extract 0 (frN s abcT))).1.size≤16384:=by
  unfold atomE
  split
  ·exact Nat.zero_le _
  split
  ·have:=textB_sz (t:=s.extract 0 (frN s abcT)) (by omega)
   rw [app_size];show 1+_≤_;omega
  ·exact Nat.zero_le _
 have hA:=fun L=>refAtom_ok M L (s.extract 0 (frN s abcT)) (by rw [ext_size hle];omega)
 have hrs:=ext_rest s (frN s abcT)
 generalize frN s abcT=F at*
 generalize atomE (s.extract 0 F)=e at*
 refine Tr.intro 18 Tryz.func167 rfl rfl Tryz.call167 rfl ?_;intro C hC hro
 repeat (first | refine yy ?_ | refine yx fun _=> ?_ | refine qc (hfr _) ?_ | refine qc (hA _) ?_)
 refine run_ret hC (rs:= [.tmp 2,.tmp 3]) rfl (resT rfl (resT rfl resN)) (fun _ h=>h) ⟨rfl,rfl,e.1,F,rfl,hle,hsz,fun x hx=> ?_⟩
 rw [hat] at hx
 obtain ⟨h1,h2⟩:=had_some hx
 exact ⟨by rw [h1],by rw [←h2,hrs];omega⟩
theorem val_at: ∀n:Fin 256,isHex n.val.toUInt8=true→((97:Int)≤((n.val.toUInt8).toNat:Int)→IntKind.u8.wrap (IntKind.u8.wrap (((n.val.toUInt8).toNat:Int)-97)+10)=(hvN n.val.toUInt8:Int))∧(¬(97:Int)≤((n.val.toUInt8).toNat:Int)→IntKind.u8.wrap (((n.val.toUInt8).toNat:Int)-48)=(hvN n.val.toUInt8:Int)):=by decide+kernel
theorem rvalue_ok (M:Mem) (L:HL) (b:UInt8) (hb:isHex b=true):TrQ Tryz.prog 206 [.int .u8 (b.toNat:Int)] M L (.int .u8 (hvN b:Int)):=by
 obtain ⟨h1,h2⟩:=of_fin (P:=fun b=>isHex b=true→((97:Int)≤((b.toNat:Nat):Int)→IntKind.u8.wrap (IntKind.u8.wrap (((b.toNat:Nat):Int)-97)+10)=(hvN b:Int))∧(¬(97:Int)≤((b.toNat:Nat):Int)→IntKind.u8.wrap (((b.toNat:Nat):Int)-48)=(hvN b:Int))) val_at b hb
 refine Tr.intro 10 Tryz.func206 rfl rfl Tryz.call206 rfl ?_;intro C hC hro
 repeat (first | refine yy ?_ | refine yx fun _=> ?_)
 refine run_cond (t:=decide (((b.toNat:Nat):Int)≥97)) rfl (fun h=> ?_) (fun h=> ?_)
 ·repeat (first | refine yy ?_ | refine yx fun _=> ?_)
  exact run_ret hC (rs:= [.tmp 2]) rfl (resT rfl resN) (fun _ h=>h) ⟨by rw [←h1 (of_decide_eq_true h)];rfl,rfl,rfl⟩
 ·repeat (first | refine yy ?_ | refine yx fun _=> ?_)
  exact run_ret hC (rs:= [.tmp 2]) rfl (resT rfl resN) (fun _ h=>h) ⟨by rw [←h2 (of_decide_eq_false h)];rfl,rfl,rfl⟩
theorem hv_sum: ∀x y:Fin 16,IntKind.u8.wrap (IntKind.u8.wrap ((x.val:Int)*16)+(y.val:Int))=(((x.val*16+y.val).toUInt8).toNat:Int):=by decide+kernel
theorem unhex_snoc: ∀(l:List UInt8) (k:Nat) (a b:UInt8),l[2*k]? =some a→l[2*k+1]? =some b→unhex (l.take (2*(k+1)))=unhex (l.take (2*k))++ [(hvN a*16+hvN b).toUInt8]
 | [],k,a,b,h,_=>by simp at h
 | [x],0,a,b,_,h=>by simp at h
 | [x],k+1,a,b,h,_=>by rw [show 2*(k+1)=2*k+1+1 by omega] at h;simp at h
 | x::y::l,0,a,b,h1,h2=>by simp at h1 h2;rw [h1,h2];rfl
 | x::y::l,k+1,a,b,h1,h2=>by
   rw [show 2*(k+1)=2*k+1+1 by omega] at h1 h2
   simp only [List.getElem?_cons_succ] at h1 h2
   rw [show 2*(k+1+1)=2*(k+1)+1+1 by omega,show 2*(k+1)=2*k+1+1 by omega,List.take_succ_cons,List.take_succ_cons,List.take_succ_cons,List.take_succ_cons,unhex,unhex,show 2*k+1+1=2*(k+1) by omega,unhex_snoc l k a b h1 h2]
   rfl
theorem rbytes_ok (M:Mem) (L:HL) (s:ByteArray) (hs:s.size<1000000):Tr Tryz.prog 168 [.string s] M L (fun v M' L'=>M=M'∧L'=L∧rdR ((bytesR s).bind fun x=>hadO (dataE x.1) x.2) s v):=by
 have hle:=frN_le s hexT
 have hfr:=fun L=>rfront_ok M L s hexT hs (by decide)
 have hdef:bytesR s=if frN s hexT%2=0 then if plainB (bs (unhex (s.extract 0 (frN s hexT)).data.toList))=true then none else some (bs (unhex (s.extract 0 (frN s hexT)).data.toList),s.extract (frN s hexT) s.size)else none:=by rw [bytesR,hex_fr]
 have hall:=hex_all s
 rw [hex_fr] at hall
 have hrs:=ext_rest s (frN s hexT)
 have hpl:(s.extract 0 (frN s hexT)).data.toList.length=frN s hexT:=by rw [ba_len,ext_size hle]
 have hat: ∀j b,(s.extract 0 (frN s hexT)).data.toList[j]? =some b→s[j]? =some b:=fun j b h=>by
  rw [ba_extract,List.drop_zero,List.getElem?_take] at h
  split at h
  ·rw [ba_get];exact h
  ·cases h
 generalize frN s hexT=F at*
 generalize (s.extract 0 F).data.toList=P at*
 have hul:=unhex_len P
 have hx0: ∀ {o:Option (ByteArray×ByteArray)},o=none→rdR o s (.tuple ⟨[.string ⟨#[]⟩,iv 0]⟩):=fun h=>⟨⟨#[]⟩,0,rfl,Nat.zero_le _,Nat.zero_le _,fun x hx=>by rw [h] at hx;cases hx⟩
 refine Tr.intro 48 Tryz.func168 rfl rfl Tryz.call168 rfl ?_;intro C hC hro
 repeat (first | refine yy ?_ | refine yx fun _=> ?_ | refine qc (hfr _) ?_ | refine vq ?_ (qt_rem rfl rfl (fun _=>by decide)))
 have hrem:((F:Int).tmod 2 !=0)= !decide (F%2=0):=by
  rw [Int.tmod_eq_emod_of_nonneg (by omega),Bool.eq_iff_iff]
  simp
  omega
 refine run_cond (t:=(!decide (F%2=0))||decide ((F:Int)>2048)) (by rw [←hrem];rfl) (fun h=> ?_) (fun h=> ?_)
 ·have hno:((bytesR s).bind fun x=>hadO (dataE x.1) x.2)=none:=by
   rw [hdef]
   by_cases h2:F%2=0
   ·rw [if_pos h2]
    split
    ·rfl
    ·have hbig:F>2048:=by
      rw [decide_eq_true h2] at h
      simp at h;omega
     have hd:(dataE (bs (unhex P))).2=5:=by
      rw [dataE,if_pos]
      rw [←ba_len]
      show 1024<(unhex P).length
      omega
     rw [Option.bind_some]
     show hadO (dataE (bs (unhex P))) _=none
     unfold hadO
     rw [if_neg (by rw [hd];decide)]
   ·rw [if_neg h2];rfl
  repeat (first | refine yy ?_ | refine yx fun _=> ?_)
  exact run_ret hC (rs:= [.tmp 2,.tmp 3]) rfl (resT rfl (resT rfl resN)) (fun _ h=>h) ⟨rfl,rfl,hx0 hno⟩
 rw [Bool.or_eq_false_iff] at h
 have h2:F%2=0:=by simpa using h.1
 have hF:F≤2048:=by have:=of_decide_eq_false h.2;omega
 rw [if_pos h2] at hdef
 clear h hrem
 repeat (first | refine yy ?_ | refine yx fun _=> ?_)
 refine run_loopN (fun k σ1 M1 L1=>2*k≤F∧M=M1∧L=L1∧σ1= [(6,iv (2*k)),(5,.string (bs (unhex (P.take (2*k))))),(4,iv F),(0,.string s)]) F [(6,iv (2*0)),(5,.string (bs (unhex (P.take (2*0))))),(4,iv F),(0,.string s)] ?_ ⟨Nat.zero_le _,rfl,rfl,rfl⟩ (fun j _ _ _ h=>by have:=h.1;omega) ?_
 ·exact ⟨rfl,rfl,rfl,rfl,trivial⟩
 rintro k _ _ _ ⟨hk,rfl,rfl,rfl⟩ hnext
 have hw1:IntKind.i64.wrap (((2*k:Nat):Int)+1)=((2*k+1:Nat):Int):=by rw [wrap64_succ (by omega)]
 repeat (first | refine zc ?_ | refine vq ?_)
 refine run_cond (t:=decide (((2*k+1:Nat):Int)<(F:Int))) (by show some (Value.bool (decide (IntKind.i64.wrap (((2*k:Nat):Int)+1)<(F:Int))))=_;rw [hw1]) (fun h=> ?_) (fun h=> ?_)
 ·have hlt:2*k+1<F:=by have:=of_decide_eq_true h;omega
  obtain ⟨a,ha⟩: ∃a,P[2*k]? =some a:=⟨_,List.getElem?_eq_getElem (by omega)⟩
  obtain ⟨b,hb⟩: ∃b,P[2*k+1]? =some b:=⟨_,List.getElem?_eq_getElem (by omega)⟩
  have hsa:=hat _ _ ha
  have hsb:=hat _ _ hb
  have hxa:=hall a (List.mem_of_getElem? ha)
  have hxb:=hall b (List.mem_of_getElem? hb)
  have h1:=(hexv hxa).2
  have h3:=(hexv hxb).2
  have hsum:=hv_sum ⟨hvN a,h1⟩ ⟨hvN b,h3⟩
  simp only at hsum
  have hun:=unhex_snoc P k a b ha hb
  generalize (hvN a*16+hvN b).toUInt8=u at*
  have hlk:(unhex (P.take (2*k))).length≤2048:=by rw [unhex_len,List.length_take];omega
  have hcc:(bs (unhex (P.take (2*k)))).size+(bytesI [((u.toNat:Nat):Int)]).size<4611686018427387904:=by
   rw [bytesI_one,←ba_len]
   show (unhex (P.take (2*k))).length+1<_;omega
  have hnew:bs (unhex (P.take (2*k)))++bytesI [((u.toNat:Nat):Int)]=bs (unhex (P.take (2*(k+1)))):=by
   apply ba_ext
   rw [app_list,bytesI_list,hun]
   simp
  repeat (first | refine zc ?_)
  refine dd ?_
  iterate 4 refine yd ?_
  refine pc (rvalue_ok _ _ a hxa) ?_
  iterate 4 refine yd ?_
  refine pr_as 32 (iv (2*k+1)) rfl (congrArg (Value.int .i64) hw1) ?_
  iterate 1 refine yd ?_
  refine pc (rvalue_ok _ _ b hxb) ?_
  iterate 1 refine yd ?_
  refine pr_as 35 (.int .u8 ((u.toNat:Nat):Int)) rfl (congrArg (Value.int .u8) hsum) ?_
  repeat (first | refine yy ?_ | refine dd ?_ | refine yd ?_ | refine yx fun _=> ?_ | refine pq rfl (qt_bytesStr tok [((u.toNat:Nat):Int)] rfl rfl rfl rfl (cellsAll List.mem_cons_self) rfl) ?_)
  have hw2:IntKind.i64.wrap (((2*k:Nat):Int)+2)=((2*(k+1):Nat):Int):=by rw [show ((2*k:Nat):Int)+2=((2*(k+1):Nat):Int) by omega,wrap64_nat (by omega)]
  refine run_mem (fun _ h=>h.drop) ?_
  exact run_sub' (hnext _ _ _ ⟨by omega,rfl,rfl,rfl⟩) ⟨congrArg (fun z=>some (Value.int .i64 z)) hw2,by rw [←hnew];rfl,rfl,rfl,trivial⟩
 ·have hge:2*k=F:=by have:=of_decide_eq_false h;omega
  rw [hge,List.take_of_length_le (by omega)]
  clear hnext h hw1
  repeat (first | refine yy ?_ | refine yx fun _=> ?_ | refine qc (refPlain_ok _ _ (bs (unhex P))) ?_)
  refine run_cond (t:=plainB (bs (unhex P))) rfl (fun h=> ?_) (fun h=> ?_)
  ·rw [if_pos h] at hdef
   repeat (first | refine yy ?_ | refine yx fun _=> ?_)
   exact run_ret hC (rs:= [.tmp 2,.tmp 3]) rfl (resT rfl (resT rfl resN)) (fun _ h=>h) ⟨rfl,rfl,hx0 (by rw [hdef];rfl)⟩
  rw [if_neg (by rw [h];decide)] at hdef
  have hdz:=dataE_sz (s:=bs (unhex P))
  have hd:=fun L=>refData_ok M L (bs (unhex P)) (by rw [←ba_len];show (unhex P).length<_;omega)
  rw [hdef,Option.bind_some] at hC
  generalize hde:dataE (bs (unhex P))=e at*
  repeat (first | refine yy ?_ | refine yx fun _=> ?_ | refine qc (hd _) ?_)
  refine run_ret hC (rs:= [.tmp 2,.tmp 3]) rfl (resT rfl (resT rfl resN)) (fun _ h=>h) ⟨rfl,rfl,e.1,F,rfl,hle,hdz,fun x hx=> ?_⟩
  obtain ⟨g1,g2⟩:=had_some hx
  exact ⟨by rw [g1],by rw [←g2];show F+(s.extract F s.size).size=_;rw [hrs];omega⟩
theorem whF_yes {q:Int→Bool} {e:Nat} : ∀ {l:List (Nat×Nat)},(∀x∈l,x.1<e)→whF q l e=e→ ∀x∈l,q (x.2:Int)=true
 | [],_,_,x,hx=>by cases hx
 | y::l,h,hw,x,hx=>by
   rw [whF] at hw
   split at hw
   ·rename_i hy
    rcases List.mem_cons.1 hx with rfl | hx
    ·exact hy
    ·exact whF_yes (fun z hz=>h z (List.mem_cons_of_mem _ hz)) hw x hx
   ·have:=h y List.mem_cons_self;omega
theorem rsF_in (s:ByteArray): ∀(k p:Nat),s.size-p≤k→ ∀x∈rsF s p,x.1<s.size
 | k,p,h,x,hx=>by
   by_cases hp:p<s.size
   ·have hw:=decode_wide s hp
    rw [rsF_lt hp] at hx
    rcases List.mem_cons.1 hx with rfl | hx
    ·exact hp
    ·cases k with
     | zero=>omega
     | succ k=>exact rsF_in s k _ (by omega) x hx
   ·rw [rsF_ge hp] at hx;cases hx
theorem plain_no {w:ByteArray} (h:whileN w plainR=w.size): ∀b∈w.data.toList,b≠34:=by
 have h1:=whF_yes (rsF_in w w.size 0 (by omega)) h
 have h2:=runes_bytes (s:=w) (q:=fun r=>decide (r≠34)) (fun r hr=>decide_eq_true (by omega)) fun r hr=>by
  obtain ⟨x,hx,rfl⟩:=List.mem_map.1 hr
  have:=h1 x hx
  unfold plainR at this
  rw [Bool.and_eq_true] at this
  exact this.1
 intro b hb e
 have:=h2 b hb
 rw [e] at this
 exact absurd this (by decide)
theorem qu_at {s:ByteArray} {x:ByteArray×ByteArray} (h:quO s=some x):(∀j b,j<whileN s plainR→s[j]? =some b→b≠34)∧s[whileN s plainR]? =some 34∧plainB (s.extract 0 (whileN s plainR))=true∧dataE (s.extract 0 (whileN s plainR))=(x.1,0)∧whileN s plainR+1+x.2.size=s.size:=by
 unfold quO at h
 split at h
 rotate_left
 ·cases h
 rename_i hq
 have hle:=while_le s plainR
 have hwp:=while_pre (q:=plainR) (by decide) s
 obtain ⟨h1,h2⟩:=had_some h
 have hpre:=pre_split hq
 generalize whileN s plainR=W at*
 have hno:=plain_no hwp
 have hsz:=congrArg ByteArray.size hpre
 rw [app_size,ext_rest,show (⟨#[34]⟩:ByteArray).size=1 from rfl] at hsz
 refine ⟨fun j b hj hb=>hno b ?_, ?_, ?_,h1, ?_⟩
 ·rw [ba_get] at hb
  rw [ba_extract,List.drop_zero]
  have:(s.data.toList.take W)[j]? =some b:=by rw [List.getElem?_take,if_pos hj];exact hb
  exact List.mem_of_getElem? this
 ·have e:=congrArg (fun z:ByteArray=>z.data.toList[0]?) hpre
  simp only [app_list] at e
  rw [ext_to,List.getElem?_drop,Nat.add_zero] at e
  rw [ba_get,e];rfl
 ·rw [plainB,hwp];simp
 ·rw [←h2];omega
theorem rquoted_ok (M:Mem) (L:HL) (s:ByteArray) (hs:s.size<1000000):Tr Tryz.prog 169 [.string s] M L (fun v M' L'=>M=M'∧L'=L∧rdR (quO s) s v):=by
 have hqa:=fun x (h:quO s=some x)=>qu_at h
 have hx0:quO s=none→rdR (quO s) s (.tuple ⟨[.string ⟨#[]⟩,iv 0]⟩):=fun h=>⟨⟨#[]⟩,0,rfl,Nat.zero_le _,Nat.zero_le _,fun x hx=>by rw [h] at hx;cases hx⟩
 generalize quO s=o at*
 generalize whileN s plainR=W at*
 refine Tr.intro 44 Tryz.func169 rfl rfl Tryz.call169 rfl ?_;intro C hC hro
 repeat (first | refine yy ?_ | refine yx fun _=> ?_)
 refine run_loopN (fun i σ1 M1 L1=>i≤s.size∧M=M1∧L=L1∧(∀j b,j<i→s[j]? =some b→b≠34)∧σ1= [(4,iv i),(0,.string s)]) s.size [(4,iv 0),(0,.string s)] ?_ ⟨Nat.zero_le _,rfl,rfl,(fun _ _ h=>by omega),rfl⟩ (fun j _ _ _ h=>h.1) ?_
 ·exact ⟨rfl,rfl,trivial⟩
 rintro i _ _ _ ⟨hi,rfl,rfl,hno,rfl⟩ hnext
 by_cases hlt:i<s.size
 ·obtain ⟨b,hb⟩: ∃b,s[i]? =some b:=⟨_,getElem?_pos s i hlt⟩
  have hb34:(((b.toNat:Nat):Int) !=34)= !decide (b=34):=by
   have:=u8_beq b 34
   have e:(((b.toNat:Nat):Int)==34)=(b==34):=this
   rw [bne,e];rfl
  by_cases hbe:b=34
  rotate_left
  ·repeat (first | refine yy ?_ | refine yx fun _=> ?_)
   refine run_cond (t:=decide ((i:Int)<(s.size:Int))&&(((b.toNat:Nat):Int) !=34)) rfl (fun _=> ?_) (fun h=>by rw [hb34,decide_eq_false hbe,decide_eq_true (by omega)] at h;cases h)
   repeat (first | refine yy ?_ | refine yx fun _=> ?_)
   refine run_sub' (hnext _ _ _ ⟨hlt,rfl,rfl,fun j c hj hc=> ?_,rfl⟩) ⟨lk_succ rfl (by omega),rfl,trivial⟩
   by_cases hji:j=i
   ·rw [hji,hb] at hc
    obtain rfl:=Option.some.inj hc
    exact hbe
   ·exact hno j c (by omega) hc
  subst hbe
  have hWi: ∀x,o=some x→W=i:=fun x hx=>by
   obtain ⟨g1,g2,_⟩:=hqa x hx
   by_cases h1:W<i
   ·exact absurd rfl (hno W 34 h1 g2)
   by_cases h2:i<W
   ·exact absurd rfl (g1 i 34 h2 hb)
   omega
  repeat (first | refine yy ?_ | refine yx fun _=> ?_)
  refine run_cond (t:=decide ((i:Int)<(s.size:Int))&&((((34:UInt8).toNat:Nat):Int) !=34)) rfl (fun h=>by rw [hb34] at h;simp at h) (fun _=> ?_)
  have hsz0:(s.extract 0 i).size=i:=ext_size hi
  have hP:=fun L=>refPlain_ok M L (s.extract 0 i)
  have hd:=fun L=>refData_ok M L (s.extract 0 i) (by omega)
  have hdz:=dataE_sz (s:=s.extract 0 i)
  have hdl: ∀t,dataE (s.extract 0 i)=(t,0)→i≤1024:=fun t h=>by
   unfold dataE at h
   split at h
   ·cases h
   ·omega
  generalize hpb:plainB (s.extract 0 i)=pb at*
  generalize hde:dataE (s.extract 0 i)=e at*
  clear hnext
  repeat (first | refine yy ?_ | refine yx fun _=> ?_ | refine gc (hP _) ?_)
  refine run_cond (t:=(((i:Int)==(s.size:Int))||decide ((i:Int)>1024))|| !pb) rfl (fun h=> ?_) (fun h=> ?_)
  ·have hn:o=none:=by
    cases hoo:o with
    | none=>rfl
    | some x=>
      exfalso
      obtain ⟨_,_,g3,g4,_⟩:=hqa x hoo
      rw [hWi x hoo] at g3 g4
      rw [hpb] at g3
      rw [hde] at g4
      have:=hdl _ g4
      rw [g3] at h
      simp at h
      omega
   repeat (first | refine yy ?_ | refine yx fun _=> ?_)
   exact run_ret hC (rs:= [.tmp 2,.tmp 3]) rfl (resT rfl (resT rfl resN)) (fun _ h=>h) ⟨rfl,rfl,hx0 hn⟩
  ·have hw:IntKind.i64.wrap ((i:Int)+1)=((i+1:Nat):Int):=wrap64_succ (by omega)
   repeat (first | refine yy ?_ | refine yx fun _=> ?_ | refine qc (hd _) ?_)
   refine run_ret hC (rs:= [.tmp 2,.tmp 3]) rfl (resT rfl (resT rfl resN)) (fun _ h=>h) ⟨rfl,rfl,e.1,i+1, ?_,by omega,hdz,fun x hx=> ?_⟩
   ·show Value.tuple ⟨[_,_]⟩=_
    rw [hw]
   ·obtain ⟨_,_,_,g4,g5⟩:=hqa x hx
    rw [hWi x hx] at g4 g5
    rw [hde] at g4
    exact ⟨by rw [g4],g5⟩
 ·have hge:i=s.size:=by omega
  have hn:o=none:=by
   cases hoo:o with
   | none=>rfl
   | some x=>
     exfalso
     obtain ⟨_,g2,_⟩:=hqa x hoo
     have hW:W<s.size:=by
      apply Classical.byContradiction
      intro h
      rw [getElem?_neg s W h] at g2;cases g2
     exact hno W 34 (by omega) g2 rfl
  clear hnext
  repeat (first | refine zc ?_ | refine vq ?_)
  refine runL_as 11 (.bool false) rfl (by congr 1;simp;omega) ?_
  repeat (first | refine yk ?_ | refine yx fun _=> ?_)
  refine run_cond (t:=false) rfl (fun h=>by cases h) (fun _=> ?_)
  repeat (first | refine zc ?_ | refine vq ?_)
  refine runL_as 23 (.bool true) rfl (by congr 1;simp [hge]) ?_
  repeat (first | refine yk ?_ | refine yx fun _=> ?_)
  refine run_cond (t:=true) rfl (fun _=> ?_) (fun h=>by cases h)
  repeat (first | refine yy ?_ | refine yx fun _=> ?_)
  exact run_ret hC (rs:= [.tmp 2,.tmp 3]) rfl (resT rfl (resT rfl resN)) (fun _ h=>h) ⟨rfl,rfl,hx0 hn⟩
theorem rmade_ok (M:Mem) (L:HL) (s:SStr) (h:StOk M s) (pre:ByteArray) (hp2:pre.size≤16384) (hz:(cat s.xs).size<1000000000):TrQ Tryz.prog 207 [.string pre,s.v] M L (.tuple ⟨[.string (madeE pre s.xs).1,.int .i64 (madeE pre s.xs).2]⟩):=by
 have hlen:=h.len
 have h6:=h.2
 have hsz: ∀t∈s.xs,t.size<1000000000:=fun t ht=>by have:=cat_mem ht;omega
 have h0:=h.1
 have hzj: ∀j,(pre++cat (s.xs.take j)).size<1000020000:=fun j=>by have:=cat_take_le s.xs j;rw [app_size];omega
 have hmj: ∀j,16384<(pre++cat (s.xs.take j)).size→mayB (pre++cat (s.xs.take j))=false∧mayB (pre++cat s.xs)=false:=fun j hj=>by
  have h1:=cat_take_le s.xs j
  have h2:=hzj j
  have hno: ∀t:ByteArray,16384<t.size→t.size<2000000000→mayB t=false:=fun t h1 h2=>by
   cases hm:mayB t with
   | false=>rfl
   | true=>have:=mayB_sz (by omega) hm;omega
  exact ⟨hno _ hj (by omega),hno _ (by rw [app_size] at*;omega) (by rw [app_size];omega)⟩
 obtain ⟨a,n,c,xs⟩:=s
 simp only [SStr.v,SStr.Ok] at*
 refine Tr.intro 43 Tryz.func207 rfl rfl Tryz.call207 rfl ?_;intro C hC hro
 repeat (first | refine yy ?_ | refine yx fun _=> ?_)
 refine run_loopN (fun j σ1 M1 L1=>j≤n∧M=M1∧L=L1∧(xs.take j).all mayB=true∧σ1= [(7,iv j),(6,.string pre),(1,.slice a n c)]) n [(7,iv 0),(6,.string pre),(1,.slice a n c)] ?_ ⟨Nat.zero_le _,rfl,rfl,rfl,rfl⟩ (fun j _ _ _ h=>h.1) ?_
 ·exact ⟨rfl,rfl,rfl,trivial⟩
 rintro j _ _ _ ⟨hj,rfl,rfl,hall,rfl⟩ hnext
 repeat (first | refine yy ?_ | refine yx fun _=> ?_)
 refine run_cond (t:=decide ((j:Int)<(n:Int))) rfl (fun h=> ?_) (fun h=> ?_)
 ·have hlt:j<n:=by have:=of_decide_eq_true h;omega
  obtain ⟨b,off,x,rfl,hx,hc⟩:=SStr.at_ h0 hlt
  have hxz:=hsz x (List.mem_of_getElem? hx)
  repeat (first | refine yy ?_ | refine yx fun _=> ?_ | refine qc (dmay_ok _ _ x (by omega)) ?_)
  refine run_cond (t:= !mayB x) rfl (fun h=> ?_) (fun h=> ?_)
  ·have he:madeE pre xs=(⟨#[]⟩,2):=if_neg (by
    intro ha
    have:=List.all_eq_true.1 ha x (List.mem_of_getElem? hx)
    rw [this] at h;cases h)
   repeat (first | refine yy ?_ | refine yx fun _=> ?_)
   exact run_ret hC (rs:= [.tmp 4,.tmp 5]) rfl (resT rfl (resT rfl resN)) (fun _ h=>h) ⟨by rw [he];rfl,rfl,rfl⟩
  ·repeat (first | refine yy ?_ | refine yx fun _=> ?_)
   refine run_sub' (hnext _ _ _ ⟨hlt,rfl,rfl, ?_,rfl⟩) ⟨lk_succ rfl (by omega),rfl,rfl,trivial⟩
   rw [take_snoc hx,List.all_append,hall]
   simpa using h
 have hge:j=n:=by have:=of_decide_eq_false h;omega
 rw [hge,List.take_of_length_le (by omega)] at hall
 have hm:madeE pre xs=if mayB (pre++cat xs)=true then (pre++cat xs,0)else (⟨#[]⟩,5):=if_pos hall
 clear hnext h
 repeat (first | refine yy ?_ | refine yx fun _=> ?_)
 refine run_loopN (fun j σ1 M1 L1=>j≤n∧M=M1∧L=L1∧σ1= [(8,iv j),(6,.string (pre++cat (xs.take j))),(1,.slice a n c)]) n [(8,iv 0),(6,.string (pre++cat (xs.take 0))),(1,.slice a n c)] ?_ ⟨Nat.zero_le _,rfl,rfl,rfl⟩ (fun j _ _ _ h=>h.1) ?_
 ·exact ⟨rfl,by rw [List.take_zero,cat,app_nil];rfl,rfl,trivial⟩
 rintro j2 _ _ _ ⟨hj2,rfl,rfl,rfl⟩ hnext
 have hzn:=hzj j2
 have hmn:=hmj j2
 repeat (first | refine yy ?_ | refine yx fun _=> ?_)
 refine run_cond (t:=decide ((j2:Int)<(n:Int))&&decide (((pre++cat (xs.take j2)).size:Int)≤16384)) rfl (fun h=> ?_) (fun h=> ?_)
 ·rw [Bool.and_eq_true] at h
  have hlt:j2<n:=by have:=of_decide_eq_true h.1;omega
  obtain ⟨b,off,x,rfl,hx,hc⟩:=SStr.at_ h0 hlt
  have hxz:=hsz x (List.mem_of_getElem? hx)
  have hcc:(pre++cat (xs.take j2)).size+x.size<4611686018427387904:=by omega
  repeat (first | refine yy ?_ | refine yx fun _=> ?_)
  exact run_sub' (hnext _ _ _ ⟨hlt,rfl,rfl,rfl⟩) ⟨lk_succ rfl (by omega),by rw [take_snoc hx,cat_snoc,←app_assoc];rfl,rfl,trivial⟩
 ·rw [Bool.and_eq_false_iff] at h
  have hlast:mayB (pre++cat (xs.take j2))=mayB (pre++cat xs)∧(mayB (pre++cat xs)=true→pre++cat (xs.take j2)=pre++cat xs):=by
   by_cases hjn:j2=n
   ·rw [hjn,List.take_of_length_le (by omega)];exact ⟨rfl,fun _=>rfl⟩
   ·have hbig:16384<(pre++cat (xs.take j2)).size:=by
     rcases h with h | h
     ·have:=of_decide_eq_false h;omega
     ·have:=of_decide_eq_false h;omega
    obtain ⟨g1,g2⟩:=hmn hbig
    exact ⟨by rw [g1,g2],fun e=>by rw [g2] at e;cases e⟩
  generalize pre++cat (xs.take j2)=T at*
  generalize pre++cat xs=U at*
  repeat (first | refine yy ?_ | refine yx fun _=> ?_ | refine qc (dmay_ok _ _ T (by omega)) ?_)
  refine run_cond (t:= !mayB T) rfl (fun h=> ?_) (fun h=> ?_)
  ·rw [hlast.1] at h
   rw [if_neg (by simpa using h)] at hm
   repeat (first | refine yy ?_ | refine yx fun _=> ?_)
   exact run_ret hC (rs:= [.tmp 4,.tmp 5]) rfl (resT rfl (resT rfl resN)) (fun _ h=>h) ⟨by rw [hm];rfl,rfl,rfl⟩
  ·rw [hlast.1] at h
   have ht:mayB U=true:=by simpa using h
   rw [if_pos ht] at hm
   have hTU:=hlast.2 ht
   repeat (first | refine yy ?_ | refine yx fun _=> ?_)
   exact run_ret hC (rs:= [.tmp 4,.tmp 5]) rfl (resT rfl (resT rfl resN)) (fun _ h=>h) ⟨by rw [hm,←hTU];rfl,rfl,rfl⟩
theorem rmadeOwn_ok (M:Mem) (L:HL) (b n:Nat) (pre:ByteArray) (xs:List ByteArray) (cs:List Value) (hcs:cs=xs.map .string) (hm:(b,Obj.cells ⟨cs⟩ 9 (0,0))∈L) (hn:n=xs.length) (hn2:n<1000000) (hp2:pre.size≤16384) (hz:(cat xs).size<1000000000):
 TrQ Tryz.prog 207 [.string pre,.slice (some ⟨b,0,none⟩) n n] M L (.tuple ⟨[.string (madeE pre xs).1,.int .i64 (madeE pre xs).2]⟩):=
 TrQ.lend (fun w=>Tryz.call207 _ w) fun M' _ hb=>by
  have hs:StOk M' ⟨some ⟨b,0,none⟩,n,n,xs⟩:=⟨by
   have:=SlM.ofBlk (size:=1) (ls:=xs.map stC) (hb _ _ hm) (by rw [hcs,strs_flat]) (fun c hc=>by obtain ⟨x,_,rfl⟩:=List.mem_map.1 hc;rfl)
   rw [List.length_map,←hn] at this
   exact this,hn2⟩
  exact rmade_ok M' [] _ hs pre hp2 hz
theorem rhash_ok (M:Mem) (L:HL) (x:ByteArray) (hz:x.size<100000000):TrQ Tryz.prog 172 [.string x] M L (.tuple ⟨[.string (madeE ⟨#[104]⟩ [x]).1,.int .i64 (madeE ⟨#[104]⟩ [x]).2]⟩):=by
 have hcat:cat [x]=x:=by rw [cat,cat,app_nil]
 refine Tr.intro 9 Tryz.func172 rfl rfl Tryz.call172 rfl ?_;intro C hC hro
 repeat (first | refine yy ?_ | refine yx fun _=> ?_ | refine qc (rmadeOwn_ok _ _ _ _ ⟨#[104]⟩ [x] _ rfl List.mem_cons_self rfl (by simp) (by decide) (by rw [hcat];omega)) ?_)
 exact run_ret hC (rs:= [.tmp 2,.tmp 3]) rfl (resT rfl (resT rfl resN)) (fun _ h=>h.drop) ⟨rfl,rfl,rfl⟩
theorem rmac_ok (M:Mem) (L:HL) (x y:ByteArray) (hx:x.size<100000000) (hy:y.size<100000000):TrQ Tryz.prog 173 [.string x,.string y] M L (.tuple ⟨[.string (madeE ⟨#[109]⟩ [x,y]).1,.int .i64 (madeE ⟨#[109]⟩ [x,y]).2]⟩):=by
 have hcat:cat [x,y]=x++y:=by rw [cat,cat,cat,app_nil]
 refine Tr.intro 12 Tryz.func173 rfl rfl Tryz.call173 rfl ?_;intro C hC hro
 repeat (first | refine yy ?_ | refine yx fun _=> ?_ | refine qc (rmadeOwn_ok _ _ _ _ ⟨#[109]⟩ [x,y] _ rfl List.mem_cons_self rfl (by simp) (by decide) (by rw [hcat,app_size];omega)) ?_)
 exact run_ret hC (rs:= [.tmp 4,.tmp 5]) rfl (resT rfl (resT rfl resN)) (fun _ h=>h.drop) ⟨rfl,rfl,rfl⟩
theorem rseal_ok (M:Mem) (L:HL) (x y z:ByteArray) (hx:x.size<100000000) (hy:y.size<100000000) (hz:z.size<100000000):TrQ Tryz.prog 174 [.string x,.string y,.string z] M L (.tuple ⟨[.string (madeE ⟨#[115]⟩ [x,y,z]).1,.int .i64 (madeE ⟨#[115]⟩ [x,y,z]).2]⟩):=by
 have hcat:cat [x,y,z]=x++(y++z):=by rw [cat,cat,cat,cat,app_nil]
 refine Tr.intro 15 Tryz.func174 rfl rfl Tryz.call174 rfl ?_;intro C hC hro
 repeat (first | refine yy ?_ | refine yx fun _=> ?_ | refine qc (rmadeOwn_ok _ _ _ _ ⟨#[115]⟩ [x,y,z] _ rfl List.mem_cons_self rfl (by simp) (by decide) (by rw [hcat,app_size,app_size];omega)) ?_)
 exact run_ret hC (rs:= [.tmp 6,.tmp 7]) rfl (resT rfl (resT rfl resN)) (fun _ h=>h.drop) ⟨rfl,rfl,rfl⟩
theorem rrow_ok (M:Mem) (L:HL) (s:SStr) (h:StOk M s) (hz:(cat s.xs).size<1000000000):TrQ Tryz.prog 171 [s.v] M L (.tuple ⟨[.string (madeE ((⟨#[114]⟩:ByteArray)++numB s.xs.length) s.xs).1,.int .i64 (madeE ((⟨#[114]⟩:ByteArray)++numB s.xs.length) s.xs).2]⟩):=by
 have hlen:=h.len
 have h6:=h.2
 have hns:=numB_size (v:=s.xs.length) (by omega)
 have h1:(⟨#[114]⟩:ByteArray).size=1:=rfl
 have hq:=fun L=>rmade_ok M L s h ((⟨#[114]⟩:ByteArray)++numB s.xs.length) (by rw [app_size];omega) hz
 have e1:IntKind.u64.wrap (s.len:Int)=(s.xs.length:Int):=by rw [u64_nat (by omega),hlen]
 have hcc:(⟨#[114]⟩:ByteArray).size+(numB s.xs.length).size<4611686018427387904:=by omega
 generalize madeE ((⟨#[114]⟩:ByteArray)++numB s.xs.length) s.xs=e at*
 refine Tr.intro 13 Tryz.func171 rfl rfl Tryz.call171 rfl ?_;intro C hC hro
 repeat (first | refine yy ?_ | refine yx fun _=> ?_)
 refine runL_as 6 (.int .u64 (s.xs.length:Int)) rfl (congrArg (Value.int .u64) e1) ?_
 repeat (first | refine yy ?_ | refine yx fun _=> ?_ | refine qc (num_ok _ _ s.xs.length (by omega)) ?_ | refine qc (hq _) ?_)
 exact run_ret hC (rs:= [.tmp 2,.tmp 3]) rfl (resT rfl (resT rfl resN)) (fun _ h=>h) ⟨rfl,rfl,rfl⟩
def ptR (f:Nat) (e s:ByteArray) (M:Mem) (L:HL) (v:Value) (M':Mem) (L':HL):Prop:=M.le M'∧L'=L∧ ∃(S:SStr) (n:Int),v= .tuple ⟨[S.v,.int .i64 n]⟩∧StOk M' S∧(∀t∈S.xs,t.size≤16384)∧S.xs.length≤33∧(n= -1∨(0≤n∧n≤(s.size:Int)))∧ ∀x,pP (pT f) e 32 true s=some x→S.xs=x.1∧n+(x.2.size:Int)=(s.size:Int)
theorem pre_at {s e:ByteArray} {n:Nat} (h:n+e.size≤s.size):((s.extract n (n+e.size)).toList==e.toList)=preB (s.extract n s.size) e:=by
 rw [cut_is h,preB,ext_to]
theorem pre_room {s e:ByteArray} {n:Nat} (h:preB (s.extract n s.size) e=true) (he:1≤e.size):n+e.size≤s.size:=by
 have:=congrArg ByteArray.size (pre_split h)
 rw [app_size,ext_rest] at this
 omega
theorem next_at {s e:ByteArray} {n:Nat} (h:preB (s.extract n s.size) e=true) (he:1≤e.size):nextR (s.extract n s.size) e=s.extract (n+e.size) s.size:=by
 have hr:=pre_room h he
 rw [nextR,if_pos h]
 exact ext_ext s (by omega) hr
theorem pT_pos {f:Nat} {s:ByteArray} {x:ByteArray×ByteArray} (h:pT f s=some x):1≤x.1.size∧s.size=(lineB 16 x.1).size+x.2.size∧x.2=s.extract (s.size-x.2.size) s.size:=by
 obtain ⟨h1,h2,h3⟩:=pT_split f s x h
 have hz:=congrArg ByteArray.size h3
 rw [app_size] at hz
 refine ⟨((mayB_iff (by omega)).1 h1).1.pos,hz, ?_⟩
 have e:s.size-x.2.size=(lineB 16 x.1).size:=by omega
 rw [e]
 generalize lineB 16 x.1=u at*
 rw [h3]
 exact (ext_right u x.2).symm
theorem rparts_ok (f:Nat) (hf:f≤16) (hT: ∀(M:Mem) (L:HL) (s:ByteArray),s.size<1000000→Tr Tryz.prog 131 [.string s,.int .i64 ((17-f:Nat):Int)] M L (fun v M' L'=>M=M'∧L'=L∧rdR (pT f s) s v)) (M:Mem) (L:HL) (s:ByteArray) (hs:s.size<1000000) (e:ByteArray) (he:e.size=1):Tr Tryz.prog 170 [.string s,.string e,.int .i64 ((17-f:Nat):Int)] M L (ptR f e s M L):=by
 have hpos:=fun s x (h:pT f s=some x)=>pT_pos h
 have hpP:=fun k b s=>(show pP (pT f) e (k+1) b s=_ from rfl)
 have hp0:=fun b s=>(show pP (pT f) e 0 b s=_ from rfl)
 have hK: ∀v M' L',ptR f e s M L v M' L'=(M.le M'∧L'=L∧ ∃(S:SStr) (n:Int),v= .tuple ⟨[S.v,.int .i64 n]⟩∧StOk M' S∧(∀t∈S.xs,t.size≤16384)∧S.xs.length≤33∧(n= -1∨(0≤n∧n≤(s.size:Int)))∧ ∀x,pP (pT f) e 32 true s=some x→S.xs=x.1∧n+(x.2.size:Int)=(s.size:Int)):=fun _ _ _=>rfl
 have hbad: ∀M' L',M.le M'→L'=L→(∀x,¬pP (pT f) e 32 true s=some x)→ptR f e s M L (.tuple ⟨[.slice none 0 0,.int .i64 (-1)]⟩) M' L':=fun M' L' h1 h2 h3=>⟨h1,h2,⟨none,0,0,[]⟩,-1,rfl,⟨⟨rfl,(fun _ h=>by cases h),.inl rfl⟩,by show (0:Nat)<1000000;decide⟩,(fun t ht=>by cases ht),Nat.zero_le _,.inl rfl,fun x hx=>absurd hx (h3 x)⟩
 generalize pT f=T at*
 generalize ptR f e s M L=K at*
 refine Tr.intro 87 Tryz.func170 rfl rfl Tryz.call170 rfl ?_;intro C hC hro
 repeat (first | refine yy ?_ | refine yx fun _=> ?_)
 refine run_loopN (fun j σ1 M1 L1=>j≤33∧M=M1∧ ∃(n:Nat) (A:List ByteArray) (a:Option Addr) (c:Nat) (N:HL),A.length=j∧n≤s.size∧OS 9 1 (.slice a j c) j ((A.map stC).flatten) N∧(∀t∈A,t.size≤16384)∧L1=N++L∧(∀x,pP T e 32 true s=some x→j≤32∧ ∃y,pP T e (32-j) (decide (j=0)) (s.extract n s.size)=some y∧x=(A++y.1,y.2))∧σ1= [(9,iv n),(8,.slice a j c),(0,.string s),(1,.string e),(2,.int .i64 ((17-f:Nat):Int))]) 33 [(9,iv 0),(8,.slice none 0 0),(0,.string s),(1,.string e),(2,.int .i64 ((17-f:Nat):Int))] ?_ ⟨Nat.zero_le _,rfl,0,[],none,0,[],rfl,Nat.zero_le _,OS.nil _ _,(fun t ht=>by cases ht),rfl,(fun x hx=>⟨Nat.zero_le _,x,by rw [ext_all];exact hx,rfl⟩),rfl⟩ (fun j _ _ _ h=>h.1) ?_
 ·exact ⟨rfl,rfl,rfl,rfl,rfl,trivial⟩
 rintro j _ _ _ ⟨hj,rfl,n,A,a,c,N,hA,hn,hO,hAz,rfl,hrel,rfl⟩ hnext
 repeat (first | refine yy ?_ | refine yx fun _=> ?_)
 refine run_cond (t:=decide ((j:Int)≤32)) rfl (fun h=> ?_) (fun h=> ?_)
 rotate_left
 ·have hno: ∀x,¬pP T e 32 true s=some x:=fun x hx=>by
   have:=(hrel x hx).1
   have:=of_decide_eq_false h
   omega
  repeat (first | refine yy ?_ | refine yx fun _=> ?_)
  exact run_ret hC (rs:= [.tmp 6,.tmp 7]) rfl (resT rfl (resT rfl resN)) (fun _ h=>h.dropAll) (hbad _ _ (Mem.le_refl _) rfl hno)
 have hj32:j≤32:=by have:=of_decide_eq_true h;omega
 clear h
 obtain ⟨en,hen⟩: ∃en,preB (s.extract n s.size) e=en:=⟨_,rfl⟩
 have hw1:IntKind.i64.wrap ((n:Int)+1)=((n+1:Nat):Int):=wrap64_succ (by omega)
 have hw2:IntKind.i64.wrap ((n:Int)+2)=((n+2:Nat):Int):=by rw [show (n:Int)+2=((n+2:Nat):Int) by omega,wrap64_nat (by omega)]
 have hend: ∀ {v:Value} {M':Mem} {L':HL} (w:World),en=true→Hp M (N++L) w→v= .tuple ⟨[.slice a j c,.int .i64 (IntKind.i64.wrap ((n:Int)+1))]⟩→ ∃M' L',Hp M' L' w∧K v M' L':=fun {v M' L'} w ht hw hv=>by
  rw [ht] at hen
  obtain ⟨M2,a2,c2,q1,q2,q3,q4⟩:=hw.freezeOS hO (by rw [List.length_map];exact hA) (fun c hc=>by obtain ⟨x,_,rfl⟩:=List.mem_map.1 hc;rfl)
  have hroom:=pre_room hen (by omega)
  refine ⟨M2,L,q2, ?_⟩
  rw [hK]
  refine ⟨q1,rfl,⟨a2,j,c2,A⟩,((n+1:Nat):Int), ?_,⟨q4,by show j<1000000;omega⟩,hAz,by show A.length≤33;omega,.inr ⟨by omega,by omega⟩,fun x hx=> ?_⟩
  ·rw [hv,q3,hw1];rfl
  ·obtain ⟨_,y,hy,rfl⟩:=hrel x hx
   rw [pP_end hen] at hy
   cases hy
   refine ⟨(List.append_nil _).symm, ?_⟩
   show ((n+1:Nat):Int)+((nextR (s.extract n s.size) e).size:Int)=_
   rw [next_at hen (by omega),ext_rest];omega
 have hex1:n<s.size→((s.extract n (n+1)).toList==e.toList)=en:=fun h=>by
  have:=pre_at (s:=s) (e:=e) (n:=n) (by omega)
  rw [he] at this
  rw [this,hen]
 have hexn: ¬n<s.size→en=false:=fun h=>by
  cases hq:en with
  | false=>rfl
  | true=>rw [hq] at hen;have:=pre_room hen (by omega);omega
 iterate 2 refine yy ?_
 repeat (with_reducible refine run_seq ?_)
 refine run_cut (fun σ' M' L'=>σ'= [(32,.bool (decide (j=0)&&en)),(9,iv n),(8,.slice a j c),(0,.string s),(1,.string e),(2,.int .i64 ((17-f:Nat):Int))]∧M=M'∧L'=N++L) ?_ ?_
 rotate_left
 ·intro hk
  refine run_region ?_
  iterate 4 refine yy ?_
  by_cases hj0:j=0
  ·refine runL_as 18 (.bool true) rfl (by congr 1;simpa using hj0) ?_
   iterate 6 (first | refine yk ?_ | fail)
   by_cases hns:n<s.size
   ·refine runL_as 24 (.bool true) rfl (by congr 1;simpa using hns) ?_
    iterate 4 (first | refine yk ?_ | fail)
    refine runL_as 28 (iv (n+1)) rfl (congrArg (Value.int .i64) hw1) ?_
    repeat (first | refine yk ?_ | refine yx fun _=> ?_)
    exact run_sub' (hk _ _ _ ⟨rfl,rfl,rfl⟩) ⟨congrArg (fun z=>some (Value.bool z)) ((hex1 hns).trans (by rw [decide_eq_true hj0];rfl)),rfl,rfl,rfl,rfl,rfl,trivial⟩
   ·refine runL_as 24 (.bool false) rfl (by congr 1;simpa using hns) ?_
    repeat (first | refine yk ?_ | refine yx fun _=> ?_)
    exact run_sub' (hk _ _ _ ⟨rfl,rfl,rfl⟩) ⟨by rw [hexn hns,Bool.and_false];rfl,rfl,rfl,rfl,rfl,rfl,trivial⟩
  ·refine runL_as 18 (.bool false) rfl (by congr 1;simpa using hj0) ?_
   repeat (first | refine yk ?_ | refine yx fun _=> ?_)
   exact run_sub' (hk _ _ _ ⟨rfl,rfl,rfl⟩) ⟨by rw [decide_eq_false hj0];rfl,rfl,rfl,rfl,rfl,rfl,trivial⟩
 rintro _ _ _ ⟨rfl,rfl,rfl⟩
 refine run_cond (t:=decide (j=0)&&en) rfl (fun h=> ?_) (fun h=> ?_)
 ·rw [Bool.and_eq_true] at h
  repeat (first | refine yy ?_ | refine yx fun _=> ?_)
  exact run_retE hC (rs:= [.tmp 6,.tmp 7]) rfl (resT rfl (resT rfl resN)) fun w hw=>hend (M':=M) (L':=L) w h.2 hw rfl
 repeat (first | refine yy ?_ | refine yx fun _=> ?_)
 refine run_condI (fun σ' M' L'=>M=M'∧L'=N++L∧en=false∧(j≠0→preB (s.extract n s.size) sepB=true)∧σ'= [(9,iv (if j=0 then n else n+2)),(8,.slice a j c),(0,.string s),(1,.string e),(2,.int .i64 ((17-f:Nat):Int))]) (t:=decide ((j:Int)>0)) rfl (fun hj0 hk=> ?_) (fun hj0 hk=> ?_) ?_
 ·have hj0:j≠0:=by have:=of_decide_eq_true hj0;omega
  clear h
  repeat (with_reducible refine run_seq ?_)
  refine run_cut (fun σ' M' L'=>σ'= [(51,.bool en),(9,iv n),(8,.slice a j c),(0,.string s),(1,.string e),(2,.int .i64 ((17-f:Nat):Int))]∧M=M'∧L'=N++L) ?_ ?_
  rotate_left
  ·intro hk2
   refine run_region ?_
   iterate 5 refine yy ?_
   by_cases hns:n<s.size
   ·refine runL_as 43 (.bool true) rfl (by congr 1;simpa using hns) ?_
    iterate 4 (first | refine yk ?_ | fail)
    refine runL_as 47 (iv (n+1)) rfl (congrArg (Value.int .i64) hw1) ?_
    repeat (first | refine yk ?_ | refine yx fun _=> ?_)
    exact run_sub' (hk2 _ _ _ ⟨rfl,rfl,rfl⟩) ⟨congrArg (fun z=>some (Value.bool z)) (hex1 hns),rfl,rfl,rfl,rfl,rfl,trivial⟩
   ·refine runL_as 43 (.bool false) rfl (by congr 1;simpa using hns) ?_
    repeat (first | refine yk ?_ | refine yx fun _=> ?_)
    exact run_sub' (hk2 _ _ _ ⟨rfl,rfl,rfl⟩) ⟨by rw [hexn hns];rfl,rfl,rfl,rfl,rfl,rfl,trivial⟩
  rintro _ _ _ ⟨rfl,rfl,rfl⟩
  refine run_cond (t:=en) rfl (fun h=> ?_) (fun h=> ?_)
  ·repeat (first | refine yy ?_ | refine yx fun _=> ?_)
   exact run_retE hC (rs:= [.tmp 6,.tmp 7]) rfl (resT rfl (resT rfl resN)) fun w hw=>hend (M':=M) (L':=L) w h hw rfl
  have hsep2:sepB.size=2:=rfl
  have hno:preB (s.extract n s.size) sepB=false→ ∀x,¬pP T e 32 true s=some x:=fun hf x hx=>by
   obtain ⟨_,y,hy,_⟩:=hrel x hx
   rw [h] at hen
   rcases hkk:32-j with _ | k
   ·rw [hkk,hp0,pP,if_neg (by rw [hen];decide)] at hy;cases hy
   ·rw [hkk,pP,if_neg (by rw [hen];decide),if_neg (by simpa using hj0),if_neg (by rw [hf];decide)] at hy;cases hy
  repeat (first | refine zc ?_ | refine vq ?_)
  by_cases hrm:n+2≤s.size
  rotate_left
  ·have hf:preB (s.extract n s.size) sepB=false:=by
    cases hq:preB (s.extract n s.size) sepB with
    | false=>rfl
    | true=>have:=pre_room hq (by decide);omega
   refine runL_as 60 (.bool true) rfl (by congr 1;rw [hw2];simp;omega) ?_
   repeat (first | refine yk ?_ | refine yx fun _=> ?_)
   refine run_cond (t:=true) rfl (fun _=> ?_) (fun h=>by cases h)
   repeat (first | refine yy ?_ | refine yx fun _=> ?_)
   exact run_ret hC (rs:= [.tmp 6,.tmp 7]) rfl (resT rfl (resT rfl resN)) (fun _ h=>h.dropAll) (hbad _ _ (Mem.le_refl _) rfl (hno hf))
  have hex2:=pre_at (s:=s) (e:=sepB) (n:=n) (by omega)
  refine runL_as 60 (.bool false) rfl (by congr 1;rw [hw2];simp;omega) ?_
  iterate 4 (first | refine yk ?_ | fail)
  refine runL_as 64 (iv (n+2)) rfl (congrArg (Value.int .i64) hw2) ?_
  cases hq:preB (s.extract n s.size) sepB with
  | false=>
    rw [hq] at hex2
    repeat (first | refine yk ?_ | refine yx fun _=> ?_)
    refine run_cond (t:=true) (congrArg (fun z=>some (Value.bool (!z))) hex2) (fun _=> ?_) (fun h=>by cases h)
    repeat (first | refine yy ?_ | refine yx fun _=> ?_)
    exact run_ret hC (rs:= [.tmp 6,.tmp 7]) rfl (resT rfl (resT rfl resN)) (fun _ h=>h.dropAll) (hbad _ _ (Mem.le_refl _) rfl (hno hq))
  | true=>
    rw [hq] at hex2
    repeat (first | refine yk ?_ | refine yx fun _=> ?_)
    refine run_cond (t:=false) (congrArg (fun z=>some (Value.bool (!z))) hex2) (fun h=>by cases h) (fun _=> ?_)
    iterate 6 refine yy ?_
    exact run_sub' (hk _ _ _ ⟨rfl,rfl,h,fun _=>hq,rfl⟩) ⟨by rw [if_neg hj0];exact congrArg (fun z=>some (Value.int .i64 z)) hw2,rfl,rfl,rfl,rfl,trivial⟩
 ·have hj0:j=0:=by have:=of_decide_eq_false hj0;omega
  rw [decide_eq_true hj0,Bool.true_and] at h
  refine yy ?_
  exact run_sub' (hk _ _ _ ⟨rfl,rfl,h,fun h=>absurd hj0 h,rfl⟩) ⟨by rw [if_pos hj0];rfl,rfl,rfl,rfl,rfl,trivial⟩
 rintro _ _ _ ⟨rfl,rfl,henf,hsepj,rfl⟩
 have hsep2:sepB.size=2:=rfl
 have hn2:(if j=0 then n else n+2)≤s.size:=by
  by_cases hj0:j=0
  ·rw [if_pos hj0];exact hn
  ·rw [if_neg hj0];have:=pre_room (hsepj hj0) (by decide);omega
 rw [henf] at hen
 have hrel2: ∀x,pP T e 32 true s=some x→j<32∧ ∃z y,T (s.extract (if j=0 then n else n+2) s.size)=some z∧pP T e (31-j) false z.2=some y∧x=(A++(z.1::y.1),y.2):=fun x hx=>by
  obtain ⟨_,y,hy,hxy⟩:=hrel x hx
  rcases hkk:32-j with _ | k
  ·rw [hkk,pP,if_neg (by rw [hen];decide)] at hy;cases hy
  have hk31:31-j=k:=by omega
  have hin: ∃z,T (s.extract (if j=0 then n else n+2) s.size)=some z∧cons1 z.1 (pP T e k false z.2)=some y:=by
   rw [hkk,pP,if_neg (by rw [hen];decide)] at hy
   by_cases hj0:j=0
   ·rw [if_pos (by simpa using hj0)] at hy
    obtain ⟨z,hz,hy⟩:=Option.bind_eq_some_iff.1 hy
    exact ⟨z,by rw [if_pos hj0];exact hz,hy⟩
   ·rw [if_neg (by simpa using hj0),if_pos (hsepj hj0)] at hy
    obtain ⟨z,hz,hy⟩:=Option.bind_eq_some_iff.1 hy
    rw [next_at (hsepj hj0) (by decide),hsep2] at hz
    exact ⟨z,by rw [if_neg hj0];exact hz,hy⟩
  obtain ⟨z,hz,hy⟩:=hin
  refine ⟨by omega,z, ?_⟩
  cases hp:pP T e k false z.2 with
  | none=>rw [hp] at hy;cases hy
  | some y'=>
    rw [hp] at hy
    cases hy
    exact ⟨y',hz,by rw [hk31];exact hp,hxy⟩
 clear hrel hend hsepj henf hen hex1 hexn
 generalize (if j=0 then n else n+2)=n2 at*
 have hrs:=ext_rest s n2
 repeat (first | refine yy ?_ | refine yx fun _=> ?_ | (refine oc (hT _ _ (s.extract n2 s.size) (by omega)) ?_;rintro _ _ _ ⟨rfl,rfl,t,k,rfl,hk,htz,htr⟩))
 refine run_cond (t:=decide (t.size=0)) (by show some (Value.bool (t.toList==(⟨#[]⟩:ByteArray).toList))=_;rw [empty_beq]) (fun h=> ?_) (fun h=> ?_)
 ·have h0:=of_decide_eq_true h
  have hno: ∀x,¬pP T e 32 true s=some x:=fun x hx=>by
   obtain ⟨_,z,_,hz,_⟩:=hrel2 x hx
   have:=(htr z hz).1
   have:=(hpos _ z hz).1
   subst t
   omega
  repeat (first | refine yy ?_ | refine yx fun _=> ?_)
  exact run_ret hC (rs:= [.tmp 6,.tmp 7]) rfl (resT rfl (resT rfl resN)) (fun _ h=>h.dropAll) (hbad _ _ (Mem.le_refl _) rfl hno)
 have hw3:IntKind.i64.wrap ((n2:Int)+(k:Int))=((n2+k:Nat):Int):=by rw [show (n2:Int)+(k:Int)=((n2+k:Nat):Int) by omega,wrap64_nat (by omega)]
 repeat (first | refine yy ?_ | refine yx fun _=> ?_)
 rename_i b1
 (refine ro (st_app1 (n:=j) (news:= [.string t]) tok rfl rfl rfl rfl rfl rfl rfl rfl hO rfl (by intro u hu;simp at hu;subst hu;rfl) (by omega) (by omega)) ?_;rintro _ _ _ ⟨rfl,N',a',c',rfl,rfl,hO'⟩)
 have hfl:(A.map stC).flatten++ [.string t]=((A++ [t]).map stC).flatten:=by rw [List.map_append,List.flatten_append];rfl
 rw [hfl] at hO'
 repeat (first | refine yy ?_ | refine yx fun _=> ?_)
 refine run_sub' (hnext _ _ _ ⟨by omega,rfl,n2+k,A++ [t],a',c',N',by rw [List.length_append,hA];rfl,by omega,hO',fun u hu=> ?_,rfl,fun x hx=> ?_,rfl⟩) ⟨congrArg (fun z=>some (Value.int .i64 z)) hw3,rfl,rfl,rfl,rfl,trivial⟩
 ·rcases List.mem_append.1 hu with hu | hu
  ·exact hAz u hu
  ·rw [List.mem_singleton.1 hu];exact htz
 ·obtain ⟨g1,z,y,hz,hy,hxy⟩:=hrel2 x hx
  obtain ⟨h1,h2⟩:=htr z hz
  obtain ⟨_,_,h3⟩:=hpos _ z hz
  refine ⟨by omega,y, ?_, ?_⟩
  ·have e1:(s.extract n2 s.size).size-z.2.size=k:=by omega
   rw [e1,ext_ext s hn2 (by omega)] at h3
   rw [show 32-(j+1)=31-j by omega,decide_eq_false (by omega),←h3];exact hy
  ·rw [hxy,h1,List.append_assoc];rfl
theorem txn_split {names:List ByteArray} {s:ByteArray} {x:Tx×ByteArray} (h:txnO names s=some x): ∃u,txnV names x.1=some u∧s=u++x.2:=by
 unfold txnO at h
 obtain ⟨a,ha,h⟩:=Option.bind_eq_some_iff.1 h
 obtain ⟨b,hb,h⟩:=Option.bind_eq_some_iff.1 h
 obtain ⟨c,hc,h⟩:=Option.bind_eq_some_iff.1 h
 obtain ⟨d,hd,h⟩:=Option.bind_eq_some_iff.1 h
 obtain ⟨e,he,h⟩:=Option.bind_eq_some_iff.1 h
 split at h
 rotate_left
 ·cases h
 cases h
 obtain ⟨o,h1,h2⟩:=org_split ha
 have h3:=hear_split hb
 obtain ⟨h4,_⟩:=num_split hc
 have h5:=hear_split hd
 obtain ⟨h6,_⟩:=num_split he
 refine ⟨o++(((slB++dgB (c.1:Int))++slB)++dgB (e.1:Int)), ?_, ?_⟩
 ·show (orgV names ((a.1:Int)).toNat).map _=_
  rw [Int.toNat_natCast,orgV,h1];rfl
 ·show s=_++e.2
  simp only [app_assoc]
  rw [←h6,←h5,←h4,←h3];exact h2
def setL:Sp→List Nat→List Int→Sp
 | x,o::os,v::vs=>setL (setF x o v) os vs
 | x,_,_=>x
theorem setL_do: ∀(os:List Nat) (x:Sp) (vs:List Int),(setL x os vs).do_=x.do_
 | [],x,_=>rfl
 | _::_,x,[]=>rfl
 | o::os,x,v::vs=>by rw [setL,setL_do os];exact (setF_do x o v).1
theorem fs_split: ∀(os:List Nat) (x:Sp) (s:ByteArray) (y:Sp×ByteArray),fsO os x s=some y→ ∃vs:List Int,vs.length=os.length∧s=rwB vs++y.2∧y.1=setL x os vs
 | [],x,s,y,h=>by cases h;exact ⟨[],rfl,(nil_app _).symm,rfl⟩
 | o::os,x,s,y,h=>by
   rw [fsO] at h
   obtain ⟨a,ha,h⟩:=Option.bind_eq_some_iff.1 h
   obtain ⟨b,hb,h⟩:=Option.bind_eq_some_iff.1 h
   obtain ⟨vs,h1,h2,h3⟩:=fs_split os _ _ y h
   have h4:=hear_split ha
   obtain ⟨h5,_⟩:=num_split hb
   refine ⟨(b.1:Int)::vs,by rw [List.length_cons,List.length_cons,h1], ?_,h3⟩
   rw [rwB,app_assoc,app_assoc,←h2,←h5];exact h4
theorem row_split: ∀(k:Nat) (s:ByteArray) (x:List Int×ByteArray),rowO k s=some x→s=rwB x.1++x.2
 | 0,s,x,h=>by cases h;exact (nil_app _).symm
 | k+1,s,x,h=>by
   rw [rowO] at h
   split at h
   ·cases h;exact (nil_app _).symm
   obtain ⟨a,ha,h⟩:=Option.bind_eq_some_iff.1 h
   obtain ⟨b,hb,h⟩:=Option.bind_eq_some_iff.1 h
   obtain ⟨c,hc,h⟩:=Option.bind_eq_some_iff.1 h
   cases h
   have h1:=row_split k _ c hc
   have h4:=hear_split ha
   obtain ⟨h5,_⟩:=num_split hb
   show s=rwB ((b.1:Int)::c.1)++c.2
   rw [rwB,app_assoc,app_assoc,←h1,←h5];exact h4
theorem kd_word (w:ByteArray): ∀j,kdTo w j≠0→kW (kdTo w j)=w∧1≤kdTo w j∧kdTo w j≤(j:Int)
 | 0,h=>absurd rfl h
 | j+1,h=>by
   rw [kdTo] at h⊢
   split
   ·rename_i he;exact ⟨he,by omega,Int.le_refl _⟩
   ·rename_i he
    rw [if_neg he] at h
    obtain ⟨h1,h2,h3⟩:=kd_word w j h
    exact ⟨h1,h2,by omega⟩
theorem data_text {t:ByteArray} (hm:mayB t=true) (hz:t.size<4611686018427387904) (hk:kindN t=1):dataE (textN t).1=(t,0):=by
 obtain ⟨hd,ps,h1,h2,_⟩:=((mayB_iff hz).1 hm).1
 obtain ⟨c,y,hc,hy⟩:=hd_first h1 (cat ps)
 have hb:byte t 0=c:=by rw [h2,hy,byte0_one (by rcases hc with h | h | h | h | h | h <;> omega) (by rcases hc with h | h | h | h | h | h <;> omega)]
 have hc1:c=100:=by
  rw [kindN,if_pos hm,hb] at hk
  rcases hc with rfl | rfl | rfl | rfl | rfl | rfl <;> first | rfl | (exact absurd hk (by decide))
 have hnot: ∀ {d:Int} {z:ByteArray},d≠100→0≤d→d<256→hd=bytesI [d]++z→False:=fun {d z} h0 h3 h4 h5=>by
  rw [h2,h5,app_assoc,byte0_one h3 h4] at hb
  omega
 generalize hps:ps.length=n at h1
 cases h1 with
 | @data x hx=>
   have hp0:ps= []:=List.length_eq_zero_iff.1 hps
   rw [hp0,cat,app_nil] at h2
   have hmx:=hm
   rw [h2] at hmx
   rw [h2,text_of (.inl rfl) hx hmx,dataE,if_neg (by omega)];rfl
 | @atom x hx=>exact (hnot (d:=97) (by decide) (by decide) (by decide) rfl).elim
 | row hx=>exact (hnot (d:=114) (by decide) (by decide) (by decide) rfl).elim
 | hash=>exact (hnot (d:=104) (z:=⟨#[]⟩) (by decide) (by decide) (by decide) (app_nil _).symm).elim
 | mac=>exact (hnot (d:=109) (z:=⟨#[]⟩) (by decide) (by decide) (by decide) (app_nil _).symm).elim
 | slot=>exact (hnot (d:=115) (z:=⟨#[]⟩) (by decide) (by decide) (by decide) (app_nil _).symm).elim
theorem stepV_of {x:Sp} {t:ByteArray} (ht:tailV x=some t) (hb:x=bareP x):stepV x=some ((kW x.do_++fsB x (kO x.do_))++t):=by
 rw [stepV,ht,Option.bind_some,if_pos ((bareP_iff x).1 hb)]
theorem len2V {α:Type} : ∀ {l:List α},l.length=2→ ∃a b,l= [a,b]
 | [a,b],_=>⟨a,b,rfl⟩
 | [],h=>by cases h
 | [_],h=>by cases h
 | _::_::_::_,h=>by simp at h
theorem len3V {α:Type} : ∀ {l:List α},l.length=3→ ∃a b c,l= [a,b,c]
 | [a,b,c],_=>⟨a,b,c,rfl⟩
 | [],h=>by cases h
 | [_],h=>by cases h
 | [_,_],h=>by cases h
 | _::_::_::_::_,h=>by simp at h
theorem tailV_2 {x:Sp} (h:x.do_=2):tailV x=(termV (dataE x.text).1).map fun t=>sp1++t:=by unfold tailV;rw [if_pos h]
theorem est_split {s:ByteArray} {x:Sp×ByteArray} (h:estO s=some x): ∃u,stepV x.1=some u∧s=u++x.2:=by
 unfold estO at h
 split at h
 ·cases h
 rename_i h0
 obtain ⟨hw,h1,h9⟩:=kd_word _ 9 h0
 obtain ⟨y,hy,hx⟩:=Option.bind_eq_some_iff.1 h
 clear h
 have h:=hx
 clear hx
 obtain ⟨vs,hl,hs,hy1⟩:=fs_split _ _ _ y hy
 have hsp:=word_split s sgSp
 rw [←hw] at hsp
 generalize kdTo (wordO s sgSp).1 9=d at*
 rw [hs] at hsp
 clear hs hw hy
 have hyd:y.1.do_=d:=by rw [hy1,setL_do];rfl
 have h:(if d=2 then (hearO y.2 sp1).bind fun z=>(termO z.2 plusB).bind fun t=>if kindN t.1=1 then some ({ y.1 with text:=(textN t.1).1 },t.2)else none else if d=6 then (rowO y.2.size y.2).bind fun z=>some ({ y.1 with list:=z.1 },z.2)else some y)=some x:=by rw [←hyd];exact h
 have hfin: ∀ {t:ByteArray},y.1.do_=d→fsB y.1 (kO d)=rwB vs→x=y→tailV y.1=some t→t=⟨#[]⟩→y.1=bareP y.1→ ∃u,stepV x.1=some u∧s=u++x.2:=fun hd hf hx ht ht0 hb=>by
  rw [hx]
  refine ⟨_,stepV_of ht hb, ?_⟩
  rw [hd,hf,ht0,app_nil,app_assoc];exact hsp
 have hd9:d=1∨d=2∨d=3∨d=4∨d=5∨d=6∨d=7∨d=8∨d=9:=by omega
 obtain ⟨y1,y2⟩:=y
 simp only at hy1 h hsp hfin
 clear hyd
 rcases hd9 with rfl | rfl | rfl | rfl | rfl | rfl | rfl | rfl | rfl
 ·obtain ⟨a,rfl⟩: ∃a,vs= [a]:=List.length_eq_one_iff.1 hl
  subst hy1
  rw [if_neg (by decide),if_neg (by decide)] at h
  cases h
  exact hfin rfl rfl rfl rfl rfl rfl
 ·obtain rfl:=List.length_eq_zero_iff.1 hl
  subst hy1
  rw [if_pos rfl] at h
  obtain ⟨z,hz,h⟩:=Option.bind_eq_some_iff.1 h
  obtain ⟨t,ht,h⟩:=Option.bind_eq_some_iff.1 h
  split at h
  rotate_left
  ·cases h
  rename_i hk
  cases h
  have hz:=hear_split hz
  obtain ⟨g1,g2,g3⟩:=term_split ht
  have hde:=data_text g2 (by have:=(termO_sz ht).1;omega) hk
  obtain ⟨t,t2⟩:=t
  simp only at g1 g2 g3 hde hk⊢
  clear ht g2 hk
  generalize (textN t).1=tx at*
  generalize (lineE t).1=ln at*
  have e1:tailV ⟨2,0,0,0,0,tx,[]⟩=some (sp1++ln):=by
   rw [tailV_2 rfl]
   show Option.map _ (termV (dataE tx).1)=_
   rw [hde,g1,Option.map_some]
  refine ⟨_,stepV_of (x:=⟨2,0,0,0,0,tx,[]⟩) e1 rfl, ?_⟩
  have hz:y2=sp1++z.2:=hz
  show s=((kW 2++⟨#[]⟩)++(sp1++ln))++t2
  rw [app_nil,app_assoc,app_assoc,←g3,←hz]
  exact hsp.trans (by rw [rwB,nil_app])
 ·obtain ⟨a,b,rfl⟩: ∃a b,vs= [a,b]:=len2V hl
  subst hy1
  rw [if_neg (by decide),if_neg (by decide)] at h
  cases h
  exact hfin rfl rfl rfl rfl rfl rfl
 ·obtain ⟨a,rfl⟩: ∃a,vs= [a]:=List.length_eq_one_iff.1 hl
  subst hy1
  rw [if_neg (by decide),if_neg (by decide)] at h
  cases h
  exact hfin rfl rfl rfl rfl rfl rfl
 ·obtain ⟨a,b,rfl⟩: ∃a b,vs= [a,b]:=len2V hl
  subst hy1
  rw [if_neg (by decide),if_neg (by decide)] at h
  cases h
  exact hfin rfl rfl rfl rfl rfl rfl
 ·obtain rfl:=List.length_eq_zero_iff.1 hl
  subst hy1
  rw [if_neg (by decide),if_pos rfl] at h
  obtain ⟨z,hz,h⟩:=Option.bind_eq_some_iff.1 h
  cases h
  have hz:=row_split _ _ z hz
  refine ⟨(kW 6++⟨#[]⟩)++rwB z.1,stepV_of rfl rfl, ?_⟩
  show s=_++z.2
  rw [app_nil,app_assoc,←hz];exact hsp.trans (by rw [rwB,nil_app])
 ·obtain ⟨a,rfl⟩: ∃a,vs= [a]:=List.length_eq_one_iff.1 hl
  subst hy1
  rw [if_neg (by decide),if_neg (by decide)] at h
  cases h
  exact hfin rfl rfl rfl rfl rfl rfl
 ·obtain ⟨a,b,rfl⟩: ∃a b,vs= [a,b]:=len2V hl
  subst hy1
  rw [if_neg (by decide),if_neg (by decide)] at h
  cases h
  exact hfin rfl rfl rfl rfl rfl rfl
 ·obtain ⟨a,b,c,rfl⟩: ∃a b c,vs= [a,b,c]:=len3V hl
  subst hy1
  rw [if_neg (by decide),if_neg (by decide)] at h
  cases h
  exact hfin rfl rfl rfl rfl rfl rfl
theorem preV1 {s:ByteArray} {b:UInt8} (h:s[0]? =some b) (c:UInt8):(((b.toNat:Nat):Int)==((c.toNat:Nat):Int))=preB s ⟨#[c]⟩:=by
 rw [u8_beq]
 rw [ba_get] at h
 cases hl:s.data.toList with
 | nil=>rw [hl] at h;cases h
 | cons x l=>
   rw [hl,List.getElem?_cons_zero] at h
   obtain rfl:=Option.some.inj h
   rw [preB,hl]
   show (x==c)=(c==x&&true)
   rw [Bool.and_true,Bool.eq_iff_iff,beq_iff_eq,beq_iff_eq]
   exact eq_comm
theorem nextV1 {s:ByteArray} {c:UInt8} (h:preB s ⟨#[c]⟩=true):nextR s ⟨#[c]⟩=s.extract 1 s.size:=by rw [nextR,if_pos h];rfl
theorem preV0 (s:ByteArray) (c:UInt8) (h:s.size=0):preB s ⟨#[c]⟩=false:=by
 cases hq:preB s ⟨#[c]⟩with
 | false=>rfl
 | true=>
   have:=congrArg ByteArray.size (pre_split hq)
   rw [app_size] at this
   have h1:(⟨#[c]⟩:ByteArray).size=1:=rfl
   omega
theorem pT_empty {f:Nat} {s:ByteArray} (h:s.size=0):pT f s=none:=by
 cases f with
 | zero=>rfl
 | succ f=>rw [pT,if_neg (by rw [preV0 s _ h];decide),if_neg (by rw [preV0 s _ h];decide),if_neg (by rw [preV0 s _ h];decide),if_neg (by rw [preV0 s _ h];decide),if_pos (by omega)]
theorem made_sz {p:ByteArray} {l:List ByteArray} (hp:p.size≤2000) (h:l.length≤33) (hl: ∀t∈l,t.size≤16384):(madeE p l).1.size≤16384∧(cat l).size<100000000:=by
 have hcs:=cat_sz (c:=16384) hl
 have hc:(cat l).size≤33*16384:=Nat.le_trans hcs (Nat.mul_le_mul_right _ h)
 refine ⟨?_,by omega⟩
 unfold madeE
 split
 ·split
  ·rename_i hm;exact mayB_sz (by rw [app_size];omega) hm
  ·exact Nat.zero_le _
 ·exact Nat.zero_le _
theorem rd_none {o:Option (ByteArray×ByteArray)} {s:ByteArray} (h:o=none):rdR o s (.tuple ⟨[.string ⟨#[]⟩,iv 0]⟩):=⟨⟨#[]⟩,0,rfl,Nat.zero_le _,Nat.zero_le _,fun x hx=>by rw [h] at hx;cases hx⟩
theorem rparse_ok: ∀(f:Nat),f≤16→ ∀(M:Mem) (L:HL) (s:ByteArray),s.size<1000000→Tr Tryz.prog 131 [.string s,.int .i64 ((17-f:Nat):Int)] M L (fun v M' L'=>M=M'∧L'=L∧rdR (pT f s) s v)
 | 0,_,M,L,s,hs=>by
   refine Tr.intro 152 Tryz.func131 rfl rfl Tryz.call131 rfl ?_;intro C hC hro
   repeat (first | refine yy ?_ | refine yx fun _=> ?_)
   refine run_cond (t:=(s.toList==(⟨#[]⟩:ByteArray).toList)||decide (((17-0:Nat):Int)>16)) rfl (fun h=> ?_) (fun h=>by simp at h)
   repeat (first | refine yy ?_ | refine yx fun _=> ?_)
   exact run_ret hC (rs:= [.tmp 4,.tmp 5]) rfl (resT rfl (resT rfl resN)) (fun _ h=>h) ⟨rfl,rfl,rd_none rfl⟩
 | k+1,hk,M,L,s,hs=>by
   have ih: ∀(M:Mem) (L:HL) (s:ByteArray) (_:s.size<1000000) (e:ByteArray) (_:e.size=1),Tr Tryz.prog 170 [.string s,.string e,.int .i64 ((17-k:Nat):Int)] M L (ptR k e s M L):=fun M L s hs e he=>rparts_ok k (by omega) (rparse_ok k (by omega)) M L s hs e he
   have hpP:=fun e s x (h:pP (pT k) e 32 true s=some x)=>(pP_split (pT_split k) 32 true s x h)
   have hd: ¬(((17-(k+1):Nat):Int)>16):=by omega
   have hdw:IntKind.i64.wrap (((17-(k+1):Nat):Int)+1)=((17-k:Nat):Int):=by rw [wrap64_succ (by omega),show 17-(k+1)+1=17-k by omega]
   have hun:pT (k+1) s=if preB s ⟨#[36]⟩=true then atO (nextR s ⟨#[36]⟩)
    else if preB s ⟨#[120]⟩=true then (bytesR (nextR s ⟨#[120]⟩)).bind fun x=>hadO (dataE x.1) x.2
    else if preB s ⟨#[34]⟩=true then quO (nextR s ⟨#[34]⟩)
    else if preB s ⟨#[91]⟩=true then (pP (pT k) ⟨#[93]⟩ 32 true (nextR s ⟨#[91]⟩)).bind fun x=>hadO (madeE ((⟨#[114]⟩:ByteArray)++numB x.1.length) x.1) x.2
    else if s.size<1 then none
    else if preB (s.extract 1 s.size) ⟨#[40]⟩=true then (pP (pT k) ⟨#[41]⟩ 32 true (nextR (s.extract 1 s.size) ⟨#[40]⟩)).bind fun x=>kindO (s.extract 0 1) x.2 x.1 else none:=rfl
   by_cases h0:s.size=0
   ·have hno:=pT_empty (f:=k+1) h0
    clear hun
    generalize pT (k+1) s=o at*
    refine Tr.intro 152 Tryz.func131 rfl rfl Tryz.call131 rfl ?_;intro C hC hro
    repeat (first | refine yy ?_ | refine yx fun _=> ?_)
    refine run_cond (t:=(s.toList==(⟨#[]⟩:ByteArray).toList)||decide (((17-(k+1):Nat):Int)>16)) rfl (fun h=> ?_) (fun h=>by rw [empty_beq,decide_eq_true h0] at h;cases h)
    repeat (first | refine yy ?_ | refine yx fun _=> ?_)
    exact run_ret hC (rs:= [.tmp 4,.tmp 5]) rfl (resT rfl (resT rfl resN)) (fun _ h=>h) ⟨rfl,rfl,rd_none hno⟩
   obtain ⟨b,hb⟩: ∃b,s[0]? =some b:=⟨_,getElem?_pos s 0 (by omega)⟩
   have hbe:=preV1 hb
   have hpos:1≤s.size:=by omega
   have hrs:=ext_rest s 1
   generalize hoo:pT (k+1) s=o at*
   generalize hTk:pT k=T at*
   have hfin: ∀ {t:ByteArray} {n:Nat},n≤s.size-1→t.size≤16384→(∀x,o=some x→t=x.1∧n+x.2.size=s.size-1)→rdR o s (.tuple ⟨[.string t,.int .i64 (IntKind.i64.wrap ((n:Int)+1))]⟩):=fun {t n} h1 h2 h3=>⟨t,n+1,by rw [wrap64_succ (by omega)],by omega,h2,fun x hx=>by obtain ⟨g1,g2⟩:=h3 x hx;exact ⟨g1,by omega⟩⟩
   refine Tr.intro 152 Tryz.func131 rfl rfl Tryz.call131 rfl ?_;intro C hC hro
   repeat (first | refine yy ?_ | refine yx fun _=> ?_)
   refine run_cond (t:=(s.toList==(⟨#[]⟩:ByteArray).toList)||decide (((17-(k+1):Nat):Int)>16)) rfl (fun h=>by rw [empty_beq,decide_eq_false h0,decide_eq_false hd] at h;cases h) (fun _=> ?_)
   repeat (first | refine yy ?_ | refine yx fun _=> ?_)
   refine run_cond (t:=preB s ⟨#[36]⟩) (congrArg (fun z=>some (Value.bool z)) (hbe 36)) (fun h=> ?_) (fun h1=> ?_)
   ·rw [if_pos h,nextV1 h] at hun
    repeat (first | refine yy ?_ | refine yx fun _=> ?_ | (refine oc (ratom_ok _ _ (s.extract 1 s.size) (by omega)) ?_;rintro _ _ _ ⟨rfl,rfl,t,n,rfl,hn,htz,htr⟩))
    exact run_ret hC (rs:= [.tmp 4,.tmp 5]) rfl (resT rfl (resT rfl resN)) (fun _ h=>h) ⟨rfl,rfl,hfin (by omega) htz fun x hx=>by obtain ⟨g1,g2⟩:=htr x (hun.symm.trans hx);exact ⟨g1,by omega⟩⟩
   rw [if_neg (by rw [h1];decide)] at hun
   repeat (first | refine yy ?_ | refine yx fun _=> ?_)
   refine run_cond (t:=preB s ⟨#[120]⟩) (congrArg (fun z=>some (Value.bool z)) (hbe 120)) (fun h=> ?_) (fun h2=> ?_)
   ·rw [if_pos h,nextV1 h] at hun
    repeat (first | refine yy ?_ | refine yx fun _=> ?_ | (refine oc (rbytes_ok _ _ (s.extract 1 s.size) (by omega)) ?_;rintro _ _ _ ⟨rfl,rfl,t,n,rfl,hn,htz,htr⟩))
    exact run_ret hC (rs:= [.tmp 4,.tmp 5]) rfl (resT rfl (resT rfl resN)) (fun _ h=>h) ⟨rfl,rfl,hfin (by omega) htz fun x hx=>by obtain ⟨g1,g2⟩:=htr x (hun.symm.trans hx);exact ⟨g1,by omega⟩⟩
   rw [if_neg (by rw [h2];decide)] at hun
   repeat (first | refine yy ?_ | refine yx fun _=> ?_)
   refine run_cond (t:=preB s ⟨#[34]⟩) (congrArg (fun z=>some (Value.bool z)) (hbe 34)) (fun h=> ?_) (fun h3=> ?_)
   ·rw [if_pos h,nextV1 h] at hun
    repeat (first | refine yy ?_ | refine yx fun _=> ?_ | (refine oc (rquoted_ok _ _ (s.extract 1 s.size) (by omega)) ?_;rintro _ _ _ ⟨rfl,rfl,t,n,rfl,hn,htz,htr⟩))
    exact run_ret hC (rs:= [.tmp 4,.tmp 5]) rfl (resT rfl (resT rfl resN)) (fun _ h=>h) ⟨rfl,rfl,hfin (by omega) htz fun x hx=>by obtain ⟨g1,g2⟩:=htr x (hun.symm.trans hx);exact ⟨g1,by omega⟩⟩
   rw [if_neg (by rw [h3];decide)] at hun
   repeat (first | refine yy ?_ | refine yx fun _=> ?_)
   refine run_cond (t:=preB s ⟨#[91]⟩) (congrArg (fun z=>some (Value.bool z)) (hbe 91)) (fun h=> ?_) (fun h4=> ?_)
   ·rw [if_pos h,nextV1 h] at hun
    repeat (first | refine yy ?_ | refine yx fun _=> ?_)
    refine runL_as 59 (.int .i64 ((17-k:Nat):Int)) rfl (congrArg (Value.int .i64) hdw) ?_
    refine oc (ih _ _ (s.extract 1 s.size) (by omega) ⟨#[93]⟩ rfl) ?_
    rintro _ M1 L1 ⟨hM1,hL1,S,n,rfl,hS,hSz,hSl,hn,htr⟩
    rw [hL1];clear hL1
    rw [hTk] at htr
    repeat (first | refine yy ?_ | refine yx fun _=> ?_)
    refine run_cond (t:=decide (n<0)) rfl (fun h=> ?_) (fun h=> ?_)
    ·have hno:o=none:=by
      rw [hun]
      cases hp:pP T ⟨#[93]⟩ 32 true (s.extract 1 s.size)with
      | none=>rfl
      | some x=>
        exfalso
        obtain ⟨_,g2⟩:=htr x hp
        obtain ⟨_,_,g3⟩:=hpP _ _ x hp
        have:=congrArg ByteArray.size g3
        rw [app_size,app_size] at this
        have:=of_decide_eq_true h
        omega
     repeat (first | refine yy ?_ | refine yx fun _=> ?_)
     exact run_ret hC (rs:= [.tmp 4,.tmp 5]) rfl (resT rfl (resT rfl resN)) (fun _ h=>h.of_le hM1) ⟨rfl,rfl,rd_none hno⟩
    ·have hn0:0≤n∧n≤((s.extract 1 s.size).size:Int):=by
      rcases hn with hn | hn
      ·have:=of_decide_eq_false h;omega
      ·exact hn
     obtain ⟨n',rfl⟩:=Int.eq_ofNat_of_zero_le hn0.1
     have hnb:=numB_size (v:=S.xs.length) (by omega)
     obtain ⟨hmz,hcz⟩:=made_sz (p:=(⟨#[114]⟩:ByteArray)++numB S.xs.length) (by rw [app_size];show 1+_≤_;omega) hSl hSz
     have hrow:=fun L=>rrow_ok M1 L S hS (by omega)
     have hun2: ∀x,o=some x→(madeE ((⟨#[114]⟩:ByteArray)++numB S.xs.length) S.xs).1=x.1∧n'+x.2.size=s.size-1:=fun x hx=>by
      rw [hun] at hx
      obtain ⟨y,hy,hx⟩:=Option.bind_eq_some_iff.1 hx
      obtain ⟨g1,g2⟩:=htr y hy
      obtain ⟨g3,g4⟩:=had_some hx
      rw [←g1] at g3
      exact ⟨by rw [g3],by rw [←g4];omega⟩
     generalize madeE ((⟨#[114]⟩:ByteArray)++numB S.xs.length) S.xs=e at*
     repeat (first | refine yy ?_ | refine yx fun _=> ?_ | refine qc (hrow _) ?_)
     exact run_ret hC (rs:= [.tmp 4,.tmp 5]) rfl (resT rfl (resT rfl resN)) (fun _ h=>h.of_le hM1) ⟨rfl,rfl,hfin (by omega) hmz hun2⟩
   rw [if_neg (by rw [h4];decide),if_neg (by omega)] at hun
   have hx1:s.extract 0 1=⟨#[b]⟩:=by
    rw [ba_get] at hb
    apply ba_ext
    rw [ba_extract,List.drop_zero]
    cases hl:s.data.toList with
    | nil=>rw [hl] at hb;cases hb
    | cons x l=>rw [hl,List.getElem?_cons_zero] at hb;obtain rfl:=Option.some.inj hb;rfl
   repeat (first | refine zc ?_ | refine vq ?_)
   by_cases hs2:s.size<2
   ·rw [if_neg (by rw [preV0 _ _ (by rw [ext_rest];omega)];decide)] at hun
    refine runL_as 76 (.bool true) rfl (by congr 1;simp;omega) ?_
    repeat (first | refine yk ?_ | refine yx fun _=> ?_)
    refine run_cond (t:=true) rfl (fun _=> ?_) (fun h=>by cases h)
    repeat (first | refine yy ?_ | refine yx fun _=> ?_)
    exact run_ret hC (rs:= [.tmp 4,.tmp 5]) rfl (resT rfl (resT rfl resN)) (fun _ h=>h) ⟨rfl,rfl,rd_none hun⟩
   obtain ⟨b1,hb1⟩: ∃b1,s[1]? =some b1:=⟨_,getElem?_pos s 1 (by omega)⟩
   have hb1e:=preV1 (s:=s.extract 1 s.size) (b:=b1) (by rw [ba_get,ext_to,List.getElem?_drop,←ba_get];exact hb1) 40
   refine runL_as 76 (.bool false) rfl (by congr 1;simp;omega) ?_
   repeat (first | refine yk ?_ | refine yx fun _=> ?_)
   refine run_cond (t:= !preB (s.extract 1 s.size) ⟨#[40]⟩) (congrArg (fun z=>some (Value.bool (!z))) hb1e) (fun h=> ?_) (fun h=> ?_)
   ·rw [if_neg (by simpa using h)] at hun
    repeat (first | refine yy ?_ | refine yx fun _=> ?_)
    exact run_ret hC (rs:= [.tmp 4,.tmp 5]) rfl (resT rfl (resT rfl resN)) (fun _ h=>h) ⟨rfl,rfl,rd_none hun⟩
   have hp:preB (s.extract 1 s.size) ⟨#[40]⟩=true:=by simpa using h
   rw [if_pos hp,nextV1 hp,ext_ext s hpos (by omega),hx1] at hun
   have hrs2:=ext_rest s (1+1)
   have hp2:2≤s.size:=by omega
   repeat (first | refine yy ?_ | refine yx fun _=> ?_)
   refine runL_as 85 (.int .i64 ((17-k:Nat):Int)) rfl (congrArg (Value.int .i64) hdw) ?_
   refine oc (ih _ _ (s.extract (1+1) s.size) (by omega) ⟨#[41]⟩ rfl) ?_
   rintro _ M1 L1 ⟨hM1,hL1,S,n,rfl,hS,hSz,hSl,hn,htr⟩
   rw [hL1];clear hL1
   rw [hTk] at htr
   repeat (first | refine yy ?_ | refine yx fun _=> ?_)
   refine run_cond (t:=decide (n<0)) rfl (fun h=> ?_) (fun h=> ?_)
   ·have hno:o=none:=by
     rw [hun]
     cases hp:pP T ⟨#[41]⟩ 32 true (s.extract (1+1) s.size)with
     | none=>rfl
     | some x=>
       exfalso
       obtain ⟨_,g2⟩:=htr x hp
       obtain ⟨_,_,g3⟩:=hpP _ _ x hp
       have:=congrArg ByteArray.size g3
       rw [app_size,app_size] at this
       have:=of_decide_eq_true h
       omega
    repeat (first | refine yy ?_ | refine yx fun _=> ?_)
    exact run_ret hC (rs:= [.tmp 4,.tmp 5]) rfl (resT rfl (resT rfl resN)) (fun _ h=>h.of_le hM1) ⟨rfl,rfl,rd_none hno⟩
   have hn0:0≤n∧n≤((s.extract (1+1) s.size).size:Int):=by
    rcases hn with hn | hn
    ·have:=of_decide_eq_false h;omega
    ·exact hn
   obtain ⟨n',rfl⟩:=Int.eq_ofNat_of_zero_le hn0.1
   have hfin2: ∀ {t:ByteArray},t.size≤16384→(∀r x,kindO ⟨#[b]⟩ r S.xs=some x→t=x.1∧r=x.2)→rdR o s (.tuple ⟨[.string t,.int .i64 (IntKind.i64.wrap ((n':Int)+2))]⟩):=fun {t} h2 h3=>⟨t,n'+2,by rw [show (n':Int)+2=((n'+2:Nat):Int) by omega,wrap64_nat (by omega)],by omega,h2,fun x hx=>by
    rw [hun] at hx
    obtain ⟨y,hy,hx⟩:=Option.bind_eq_some_iff.1 hx
    obtain ⟨g1,g2⟩:=htr y hy
    rw [←g1] at hx
    obtain ⟨g3,g4⟩:=h3 _ x hx
    exact ⟨g3,by rw [←g4];omega⟩⟩
   clear hun htr hfin h hn
   have hsl:=hS.len
   obtain ⟨sa,sl,sc,xs⟩:=S
   simp only at hsl hSz hSl hfin2
   refine run_as 10 (.slice sa sl sc) rfl rfl ?_
   repeat (first | refine yy ?_ | refine yx fun _=> ?_)
   refine run_cond (t:=(((b.toNat:Nat):Int)==104)&&((sl:Int)==1)) rfl (fun h=> ?_) (fun hc1=> ?_)
   ·simp only [Bool.and_eq_true,beq_iff_eq] at h
    obtain ⟨x0,rfl⟩: ∃x0,xs= [x0]:=List.length_eq_one_iff.1 (by omega)
    obtain rfl:sl=1:=by omega
    obtain rfl:b=104:=UInt8.toNat_inj.1 (by show b.toNat=104;omega)
    obtain ⟨b',off,m,e',hm,hc⟩:=SStr.at_ hS.1 (j:=0) (show 0<1 by decide)
    obtain rfl:x0=m:=by simpa using hm
    have e':sa=_:=e'
    subst e'
    have hxz:=hSz x0 List.mem_cons_self
    obtain ⟨hmz,_⟩:=made_sz (p:=(⟨#[104]⟩:ByteArray)) (l:= [x0]) (by decide) (show 1≤33 by decide) hSz
    have hq:=fun M L=>rhash_ok M L x0 (by omega)
    have hki: ∀r x,kindO ⟨#[104]⟩ r [x0]=some x→(madeE ⟨#[104]⟩ [x0]).1=x.1∧r=x.2:=fun r x hx=>by
     rw [kindO,if_pos rfl] at hx
     obtain ⟨g1,g2⟩:=had_some hx
     exact ⟨by rw [g1],g2⟩
    generalize madeE ⟨#[104]⟩ [x0]=e at*
    repeat (first | refine yy ?_ | refine yx fun _=> ?_ | refine qc (hq _ _) ?_)
    exact run_ret hC (rs:= [.tmp 4,.tmp 5]) rfl (resT rfl (resT rfl resN)) (fun _ h=>h.of_le hM1) ⟨rfl,rfl,hfin2 hmz hki⟩
   repeat (first | refine yy ?_ | refine yx fun _=> ?_)
   refine run_cond (t:=(((b.toNat:Nat):Int)==109)&&((sl:Int)==2)) rfl (fun h=> ?_) (fun hc2=> ?_)
   ·simp only [Bool.and_eq_true,beq_iff_eq] at h
    obtain ⟨x0,x1,rfl⟩:=len2V (l:=xs) (by omega)
    obtain rfl:sl=2:=by omega
    obtain rfl:b=109:=UInt8.toNat_inj.1 (by show b.toNat=109;omega)
    obtain ⟨b',off,m,e',hm,hc⟩:=SStr.at_ hS.1 (j:=0) (show 0<2 by decide)
    obtain ⟨b'',off',m',e'',hm',hc'⟩:=SStr.at_ hS.1 (j:=1) (show 1<2 by decide)
    obtain rfl:x0=m:=by simpa using hm
    obtain rfl:x1=m':=by simpa using hm'
    have e':sa=_:=e'
    subst e'
    cases e''
    have hxz:=hSz x0 List.mem_cons_self
    have hxz1:=hSz x1 (List.mem_cons_of_mem _ List.mem_cons_self)
    obtain ⟨hmz,_⟩:=made_sz (p:=(⟨#[109]⟩:ByteArray)) (l:= [x0,x1]) (by decide) (show 2≤33 by decide) hSz
    have hq:=fun M L=>rmac_ok M L x0 x1 (by omega) (by omega)
    have hki: ∀r x,kindO ⟨#[109]⟩ r [x0,x1]=some x→(madeE ⟨#[109]⟩ [x0,x1]).1=x.1∧r=x.2:=fun r x hx=>by
     rw [kindO,if_pos rfl] at hx
     obtain ⟨g1,g2⟩:=had_some hx
     exact ⟨by rw [g1],g2⟩
    generalize madeE ⟨#[109]⟩ [x0,x1]=e at*
    repeat (first | refine yy ?_ | refine dd ?_ | refine yd ?_ | refine yx fun _=> ?_ | refine pc (hq _ _) ?_)
    exact run_ret hC (rs:= [.tmp 4,.tmp 5]) rfl (resT rfl (resT rfl resN)) (fun _ h=>h.of_le hM1) ⟨rfl,rfl,hfin2 hmz hki⟩
   repeat (first | refine yy ?_ | refine yx fun _=> ?_)
   refine run_cond (t:=(((b.toNat:Nat):Int)==115)&&((sl:Int)==3)) rfl (fun h=> ?_) (fun hc3=> ?_)
   ·simp only [Bool.and_eq_true,beq_iff_eq] at h
    obtain ⟨x0,x1,x2,rfl⟩:=len3V (l:=xs) (by omega)
    obtain rfl:sl=3:=by omega
    obtain rfl:b=115:=UInt8.toNat_inj.1 (by show b.toNat=115;omega)
    obtain ⟨b',off,m,e',hm,hc⟩:=SStr.at_ hS.1 (j:=0) (show 0<3 by decide)
    obtain ⟨b'',off',m',e'',hm',hc'⟩:=SStr.at_ hS.1 (j:=1) (show 1<3 by decide)
    obtain ⟨b3,off3,m3,e3,hm3,hc3'⟩:=SStr.at_ hS.1 (j:=2) (show 2<3 by decide)
    obtain rfl:x0=m:=by simpa using hm
    obtain rfl:x1=m':=by simpa using hm'
    obtain rfl:x2=m3:=by simpa using hm3
    have e':sa=_:=e'
    subst e'
    cases e''
    cases e3
    have hxz:=hSz x0 List.mem_cons_self
    have hxz1:=hSz x1 (List.mem_cons_of_mem _ List.mem_cons_self)
    have hxz2:=hSz x2 (List.mem_cons_of_mem _ (List.mem_cons_of_mem _ List.mem_cons_self))
    obtain ⟨hmz,_⟩:=made_sz (p:=(⟨#[115]⟩:ByteArray)) (l:= [x0,x1,x2]) (by decide) (show 3≤33 by decide) hSz
    have hq:=fun M L=>rseal_ok M L x0 x1 x2 (by omega) (by omega) (by omega)
    have hki: ∀r x,kindO ⟨#[115]⟩ r [x0,x1,x2]=some x→(madeE ⟨#[115]⟩ [x0,x1,x2]).1=x.1∧r=x.2:=fun r x hx=>by
     rw [kindO,if_pos rfl] at hx
     obtain ⟨g1,g2⟩:=had_some hx
     exact ⟨by rw [g1],g2⟩
    generalize madeE ⟨#[115]⟩ [x0,x1,x2]=e at*
    repeat (first | refine yy ?_ | refine dd ?_ | refine yd ?_ | refine yx fun _=> ?_ | refine pc (hq _ _) ?_)
    exact run_ret hC (rs:= [.tmp 4,.tmp 5]) rfl (resT rfl (resT rfl resN)) (fun _ h=>h.of_le hM1) ⟨rfl,rfl,hfin2 hmz hki⟩
   have hki: ∀r x,kindO ⟨#[b]⟩ r xs=some x→(⟨#[]⟩:ByteArray)=x.1∧r=x.2:=fun r x hx=>by
    exfalso
    have hinj: ∀c:UInt8,(⟨#[b]⟩:ByteArray)=⟨#[c]⟩→b=c:=fun c h=>by injection h with h;injection h with h;injection h
    unfold kindO at hx
    split at hx
    ·split at hx
     ·rename_i hk;obtain rfl:=hinj _ hk;rw [←hsl] at hc1;simp at hc1
     ·cases hx
    ·split at hx
     ·rename_i hk;obtain rfl:=hinj _ hk;rw [←hsl] at hc2;simp at hc2
     ·cases hx
    ·split at hx
     ·rename_i hk;obtain rfl:=hinj _ hk;rw [←hsl] at hc3;simp at hc3
     ·cases hx
    ·cases hx
   repeat (first | refine yy ?_ | refine yx fun _=> ?_)
   exact run_ret hC (rs:= [.tmp 4,.tmp 5]) rfl (resT rfl (resT rfl resN)) (fun _ h=>h.of_le hM1) ⟨rfl,rfl,hfin2 (Nat.zero_le _) hki⟩
def splL (sg:List UInt8):Nat→List UInt8→List (List UInt8)
 | 0,l=> [l]
 | f+1,l=>if scanF sg l false=l.length then [l] else l.take (scanF sg l false)::splL sg f (l.drop (scanF sg l false+sg.length))
def splQ (sg:List UInt8) (f:Nat) (q:Bool) (cur l:List UInt8):List (List UInt8):=if scanF sg l q=l.length then [cur++l] else (cur++l.take (scanF sg l q))::splL sg f (l.drop (scanF sg l q+sg.length))
theorem splQ_nil (sg:List UInt8) (f:Nat) (l:List UInt8):splQ sg f false [] l=splL sg (f+1) l:=by
 rw [splQ,splL];rfl
theorem splQ_end (sg:List UInt8) (f:Nat) (q:Bool) (cur:List UInt8):splQ sg f q cur []= [cur]:=by
 rw [splQ,scanF,if_pos (show 0=([]:List UInt8).length from rfl),List.append_nil]
theorem splQ_hit {sg:List UInt8} {f:Nat} {cur l:List UInt8} {b:UInt8} (h:hasPrefix (b::l) sg=true):splQ sg f false cur (b::l)=cur::splL sg f ((b::l).drop sg.length):=by
 have hz:scanF sg (b::l) false=0:=by rw [scanF,if_neg (by rw [h];decide)]
 rw [splQ,hz,if_neg (by rw [List.length_cons];omega),List.take_zero,List.append_nil,Nat.zero_add]
theorem splQ_miss {sg:List UInt8} {f:Nat} {q:Bool} {cur l:List UInt8} {b:UInt8} (h:(q|| !hasPrefix (b::l) sg)=true):splQ sg f q cur (b::l)=splQ sg f (if b=34 then !q else q) (cur++ [b]) l:=by
 have hz:scanF sg (b::l) q=scanF sg l (if b=34 then !q else q)+1:=by rw [scanF,if_pos h]
 rw [splQ,hz,splQ]
 generalize scanF sg l (if b=34 then !q else q)=n
 by_cases hn:n=l.length
 ·rw [if_pos (by rw [hn];rfl),if_pos hn,List.append_assoc];rfl
 ·rw [if_neg (by rw [List.length_cons];omega),if_neg hn,List.take_succ_cons,show n+1+sg.length=(n+sg.length)+1 by omega,List.drop_succ_cons,List.append_assoc];rfl
def splF (s sg:ByteArray):List ByteArray:=(splL sg.data.toList (s.size+1) s.data.toList).map bs
theorem bs_cut (s:ByteArray) (a b:Nat):bs ((s.data.toList.take b).drop a)=s.extract a b:=ba_ext (ba_extract s a b).symm
theorem split_ok (M:Mem) (L:HL) (s sg:ByteArray) (hs:s.size<900000) (h1:1≤sg.size) (h9:sg.size≤9) (h34: ∀b∈sg.data.toList,b≠34):Tr Tryz.prog 103 [.string s,.string sg] M L (fun v M' L'=>M.le M'∧L'=L∧ ∃S:SStr,v=S.v∧StOk M' S∧S.xs=splF s sg):=by
 obtain ⟨T,hT⟩: ∃T,splL sg.data.toList (s.size+1) s.data.toList=T:=⟨_,rfl⟩
 rw [splF,hT]
 have hm:=ba_len sg
 have hsl:=ba_len s
 have hhd: ∀ {b:UInt8} {l:List UInt8},hasPrefix (b::l) sg.data.toList=true→b≠34:=fun {b l} h=>by
  obtain ⟨r,hr⟩:=List.isPrefixOf_iff_prefix.1 h
  cases hg:sg.data.toList with
  | nil=>rw [hg] at hm;simp at hm;omega
  | cons c t=>
    rw [hg] at hr
    obtain rfl:c=b:=by injection hr
    exact h34 c (by rw [hg];exact List.mem_cons_self)
 refine Tr.intro 65 Tryz.func103 rfl rfl Tryz.call103 rfl ?_;intro C hC hro
 repeat (first | refine yy ?_ | refine yx fun _=> ?_)
 refine run_loopN (fun i σ1 M1 L1=>i≤s.size∧M=M1∧ ∃(fr:Nat) (q:Bool) (A:List (List UInt8)) (a:Option Addr) (c:Nat) (N:HL) (f:Nat),s.size-i≤f∧A.length≤i∧fr≤s.size∧OS 9 1 (.slice a A.length c) A.length ((A.map bs).map stC).flatten N∧L1=N++L∧
  ((fr≤i∧A++splQ sg.data.toList f q ((s.data.toList.take i).drop fr) (s.data.toList.drop i)=T)∨(i<fr∧q=false∧A++splL sg.data.toList f (s.data.toList.drop fr)=T∧ ∀t b,i≤t→t<fr→s.data.toList[t]? =some b→b≠34))∧
  σ1= [(8,iv i),(7,.bool q),(6,iv fr),(5,.slice a A.length c),(0,.string s),(1,.string sg)]) s.size [(8,iv 0),(7,.bool false),(6,iv 0),(5,.slice none 0 0),(0,.string s),(1,.string sg)] ?_ ⟨Nat.zero_le _,rfl,0,false,[],none,0,[],s.size,by omega,Nat.le_refl _,Nat.zero_le _,OS.nil _ _,rfl,.inl ⟨Nat.le_refl _, ?_⟩,rfl⟩ (fun j _ _ _ h=>h.1) ?_
 ·exact ⟨rfl,rfl,rfl,rfl,rfl,rfl,trivial⟩
 ·rw [List.nil_append,List.take_zero,List.drop_zero,List.drop_zero,splQ_nil];exact hT
 rintro i _ _ _ ⟨hi,rfl,fr,q,A,a,c,N,f,hf,hAi,hfr,hO,rfl,hst,rfl⟩ hnext
 repeat (first | refine yy ?_ | refine yx fun _=> ?_)
 refine run_cond (t:=decide ((i:Int)<(s.size:Int))) rfl (fun h=> ?_) (fun h=> ?_)
 rotate_left
 ·have hge:i=s.size:=by have:=of_decide_eq_false h;omega
  subst hge
  have hT2:A++ [(s.data.toList.drop fr)]=T:=by
   rcases hst with ⟨_,h2⟩ | ⟨h2,_⟩
   ·rw [List.drop_of_length_le (l:=s.data.toList) (i:=s.size) (by omega),splQ_end,List.take_of_length_le (l:=s.data.toList) (by omega)] at h2
    exact h2
   ·omega
  clear hnext hst h
  repeat (first | refine yy ?_ | refine yx fun _=> ?_ | refine vq ?_ (qt_strLo (n:=fr) tok rfl rfl rfl (fun _=>hfr)))
  rename_i b1
  (refine ro (st_app1 (n:=A.length) (news:= [.string (s.extract fr s.size)]) tok rfl rfl rfl rfl rfl rfl rfl rfl hO rfl (by intro u hu;simp at hu;subst hu;rfl) (by omega) (by omega)) ?_;rintro _ _ _ ⟨rfl,N',a',c',rfl,rfl,hO'⟩)
  repeat (first | refine yy ?_ | refine yx fun _=> ?_)
  refine run_retE hC (rs:= [.tmp 4]) rfl (resT rfl resN) fun w hw=> ?_
  have hfl:((A.map bs).map stC).flatten++ [.string (s.extract fr s.size)]=((T.map bs).map stC).flatten:=by
   rw [←hT2,List.map_append,List.map_append,List.flatten_append,←bs_cut,List.take_of_length_le (l:=s.data.toList) (by omega)]
   rfl
  rw [hfl] at hO'
  have hTl:T.length=A.length+1:=by rw [←hT2,List.length_append];rfl
  obtain ⟨M2,a2,c2,q1,q2,q3,q4⟩:=hw.freezeOS hO' (by rw [List.length_map,List.length_map,hTl]) (fun c hc=>by obtain ⟨x,_,rfl⟩:=List.mem_map.1 hc;rfl)
  refine ⟨M2,L,q2,q1,rfl,⟨a2,A.length+1,c2,T.map bs⟩, ?_,⟨q4,by show A.length+1<1000000;omega⟩,rfl⟩
  show Value.slice _ _ _=_
  rw [q3];rfl
 have hlt:i<s.size:=by have:=of_decide_eq_true h;omega
 have hll:i<s.data.toList.length:=by omega
 obtain ⟨b,hbe⟩: ∃b,s[i]? =some b:=⟨_,getElem?_pos s i hlt⟩
 have hbl:s.data.toList[i]? =some b:=by rw [←ba_get];exact hbe
 have hdr:s.data.toList.drop i=b::s.data.toList.drop (i+1):=by
  rw [List.drop_eq_getElem_cons hll,(List.getElem?_eq_some_iff.1 hbl).2]
 obtain ⟨q',hq'⟩: ∃q':Bool,(if b=34 then !q else q)=q':=⟨_,rfl⟩
 have hw:IntKind.i64.wrap ((i:Int)+(sg.size:Int))=((i+sg.size:Nat):Int):=by rw [show (i:Int)+(sg.size:Int)=((i+sg.size:Nat):Int) by omega,wrap64_nat (by omega)]
 have hb34:(((b.toNat:Nat):Int)==34)=decide (b=34):=by
  rw [Bool.eq_iff_iff,decide_eq_true_eq,beq_iff_eq]
  constructor
  ·intro e;exact UInt8.toNat_inj.1 (by show b.toNat=34;omega)
  ·rintro rfl;rfl
 repeat (first | refine yy ?_ | refine yx fun _=> ?_)
 refine run_condI (fun σ' M' L'=>M=M'∧L'=N++L∧σ'= [(7,.bool q'),(8,iv i),(6,iv fr),(5,.slice a A.length c),(0,.string s),(1,.string sg)]) (t:=decide (b=34)) (congrArg (fun z=>some (Value.bool z)) hb34) (fun h hk=> ?_) (fun h hk=> ?_) ?_
 ·rw [if_pos (of_decide_eq_true h)] at hq'
  iterate 5 refine yy ?_
  exact run_sub' (hk _ _ _ ⟨rfl,rfl,rfl⟩) ⟨by rw [←hq'];rfl,rfl,rfl,rfl,rfl,rfl,trivial⟩
 ·rw [if_neg (of_decide_eq_false h)] at hq'
  refine yy ?_
  exact run_sub' (hk _ _ _ ⟨rfl,rfl,rfl⟩) ⟨by rw [←hq'];rfl,rfl,rfl,rfl,rfl,rfl,trivial⟩
 rintro _ _ _ ⟨rfl,rfl,rfl⟩
 obtain ⟨ts,hts⟩: ∃ts:Bool,(!q'&&(decide (fr≤i)&&(decide (i+sg.size≤s.size)&&hasPrefix (s.data.toList.drop i) sg.data.toList)))=ts:=⟨_,rfl⟩
 refine run_seq ?_
 refine run_cut (fun σ' M' L'=>σ'= [(47,.bool ts),(7,.bool q'),(8,iv i),(6,iv fr),(5,.slice a A.length c),(0,.string s),(1,.string sg)]∧M=M'∧L'=N++L) ?_ ?_
 rotate_left
 ·intro hk
  refine run_region ?_
  iterate 3 refine yy ?_
  cases q' with
  | true=>
    refine runL_as 23 (.bool false) rfl rfl ?_
    repeat (first | refine yk ?_ | refine yx fun _=> ?_)
    exact run_sub' (hk _ _ _ ⟨rfl,rfl,rfl⟩) ⟨by rw [←hts];rfl,rfl,rfl,rfl,rfl,rfl,rfl,trivial⟩
  | false=>
    refine runL_as 23 (.bool true) rfl rfl ?_
    iterate 5 (first | refine yk ?_ | fail)
    by_cases hfi:fr≤i
    rotate_left
    ·refine runL_as 28 (.bool false) rfl (by congr 1;simp;omega) ?_
     repeat (first | refine yk ?_ | refine yx fun _=> ?_)
     exact run_sub' (hk _ _ _ ⟨rfl,rfl,rfl⟩) ⟨by rw [←hts,decide_eq_false hfi];rfl,rfl,rfl,rfl,rfl,rfl,rfl,trivial⟩
    refine runL_as 28 (.bool true) rfl (by congr 1;simp;omega) ?_
    iterate 9 (first | refine yk ?_ | fail)
    by_cases hle:i+sg.size≤s.size
    rotate_left
    ·refine runL_as 37 (.bool false) rfl (by congr 1;rw [hw];simp;omega) ?_
     repeat (first | refine yk ?_ | refine yx fun _=> ?_)
     exact run_sub' (hk _ _ _ ⟨rfl,rfl,rfl⟩) ⟨by rw [←hts,decide_eq_true hfi,decide_eq_false hle];rfl,rfl,rfl,rfl,rfl,rfl,rfl,trivial⟩
    refine runL_as 37 (.bool true) rfl (by congr 1;rw [hw];simp;omega) ?_
    iterate 6 (first | refine yk ?_ | fail)
    refine runL_as 43 (iv (i+sg.size)) rfl (congrArg (Value.int .i64) hw) ?_
    repeat (first | refine yk ?_ | refine yx fun _=> ?_)
    have hv:((s.extract i (i+sg.size)).toList==sg.toList)=ts:=by rw [cut_is hle,←hts];simp [hfi,hle]
    exact run_sub' (hk _ _ _ ⟨rfl,rfl,rfl⟩) ⟨congrArg (fun z=>some (Value.bool z)) hv,rfl,rfl,rfl,rfl,rfl,rfl,trivial⟩
 rintro _ _ _ ⟨rfl,rfl,rfl⟩
 refine run_cond (t:=ts) rfl (fun h=> ?_) (fun h=> ?_)
 ·rw [h] at hts
  simp only [Bool.and_eq_true,decide_eq_true_eq,Bool.not_eq_true'] at hts
  obtain ⟨hqf,hfi,hle,hpre⟩:=hts
  have hb:b≠34:=hhd (by rw [←hdr];exact hpre)
  rw [if_neg hb] at hq'
  obtain rfl:q=false:=by rw [hq'];exact hqf
  subst hqf
  have hT2:(A++ [(s.data.toList.take i).drop fr])++splL sg.data.toList f (s.data.toList.drop (i+sg.size))=T:=by
   rcases hst with ⟨_,h2⟩ | ⟨h2,_⟩
   ·rw [hdr,splQ_hit (by rw [←hdr];exact hpre),←hdr,List.drop_drop] at h2
    rw [List.append_assoc];exact h2
   ·omega
  repeat (first | refine yy ?_ | refine yx fun _=> ?_)
  rename_i b1
  (refine ro (st_app1 (n:=A.length) (news:= [.string (s.extract fr i)]) tok rfl rfl rfl rfl rfl rfl rfl rfl hO rfl (by intro u hu;simp at hu;subst hu;rfl) (by omega) (by omega)) ?_;rintro _ _ _ ⟨rfl,N',a',c',rfl,rfl,hO'⟩)
  have hfl:((A.map bs).map stC).flatten++ [.string (s.extract fr i)]=(((A++ [(s.data.toList.take i).drop fr]).map bs).map stC).flatten:=by
   rw [List.map_append,List.map_append,List.flatten_append,←bs_cut];rfl
  rw [hfl] at hO'
  have hAl:(A++ [(s.data.toList.take i).drop fr]).length=A.length+1:=by rw [List.length_append];rfl
  rw [←hAl] at hO'
  generalize A++ [(s.data.toList.take i).drop fr]=A' at*
  repeat (first | refine yy ?_ | refine yx fun _=> ?_)
  obtain ⟨f',rfl⟩: ∃f',f=f'+1:=⟨f-1,by omega⟩
  have hwi:some (Value.int .i64 (IntKind.i64.wrap ((i:Int)+(sg.size:Int))))=some (iv (i+sg.size)):=by rw [hw]
  by_cases hm1:sg.size=1
  ·refine run_sub' (hnext _ _ _ ⟨hlt,rfl,i+sg.size,false,A',a',c',N',f',by omega,by omega,hle,hO',rfl,.inl ⟨by omega, ?_⟩,rfl⟩) ⟨lk_succ rfl (by omega),rfl,hwi,by rw [hAl];rfl,rfl,rfl,trivial⟩
   rw [List.drop_of_length_le (by rw [List.length_take];omega),splQ_nil,show i+1=i+sg.size by omega];exact hT2
  ·refine run_sub' (hnext _ _ _ ⟨hlt,rfl,i+sg.size,false,A',a',c',N',f'+1,by omega,by omega,hle,hO',rfl,.inr ⟨by omega,rfl,hT2,fun t b h3 h4 h5=> ?_⟩,rfl⟩) ⟨lk_succ rfl (by omega),rfl,hwi,by rw [hAl];rfl,rfl,rfl,trivial⟩
   obtain ⟨r,hr⟩:=List.isPrefixOf_iff_prefix.1 hpre
   have h6:(s.data.toList.drop i)[t-i]? =some b:=by rw [List.getElem?_drop,show i+(t-i)=t by omega];exact h5
   rw [←hr,List.getElem?_append_left (by omega)] at h6
   exact h34 b (List.mem_of_getElem? h6)
 ·rw [h] at hts
  repeat (first | refine yy ?_ | refine yx fun _=> ?_)
  have hnx: ∀(f2:Nat),s.size-(i+1)≤f2→((fr≤i+1∧A++splQ sg.data.toList f2 q' ((s.data.toList.take (i+1)).drop fr) (s.data.toList.drop (i+1))=T)∨(i+1<fr∧q'=false∧A++splL sg.data.toList f2 (s.data.toList.drop fr)=T∧ ∀t b,i+1≤t→t<fr→s.data.toList[t]? =some b→b≠34))→_:=fun f2 h2 h3=>hnext _ _ _ ⟨hlt,rfl,fr,q',A,a,c,N,f2,h2,by omega,hfr,hO,rfl,h3,rfl⟩
  rcases hst with ⟨h1',h2⟩ | ⟨h1',h2,h3,h4⟩
  ·have hcond:(q|| !hasPrefix (s.data.toList.drop i) sg.data.toList)=true:=by
    cases hqq:q with
    | true=>rfl
    | false=>
      cases hpp:hasPrefix (s.data.toList.drop i) sg.data.toList with
      | false=>rfl
      | true=>
        exfalso
        have hb:b≠34:=hhd (by rw [←hdr];exact hpp)
        rw [if_neg hb,hqq] at hq'
        have hle:i+sg.size≤s.size:=by
         have:=(List.isPrefixOf_iff_prefix.1 hpp).length_le
         rw [List.length_drop] at this;omega
        rw [←hq',hpp,decide_eq_true h1',decide_eq_true hle] at hts
        cases hts
   rw [hdr] at hcond
   rw [hdr,splQ_miss hcond,hq'] at h2
   refine run_sub' (hnx f (by omega) (.inl ⟨by omega, ?_⟩)) ⟨lk_succ rfl (by omega),rfl,rfl,rfl,rfl,rfl,trivial⟩
   rw [List.take_add_one,hbl,List.drop_append_of_le_length (by rw [List.length_take];omega)]
   exact h2
  ·have hb:b≠34:=h4 i b (Nat.le_refl _) h1' hbl
   rw [if_neg hb,h2] at hq'
   by_cases he:i+1=fr
   ·obtain ⟨f',rfl⟩: ∃f',f=f'+1:=⟨f-1,by omega⟩
    refine run_sub' (hnx f' (by omega) (.inl ⟨by omega, ?_⟩)) ⟨lk_succ rfl (by omega),rfl,rfl,rfl,rfl,rfl,trivial⟩
    rw [←hq',he,List.drop_of_length_le (by rw [List.length_take];omega),splQ_nil];exact h3
   ·exact run_sub' (hnx f (by omega) (.inr ⟨by omega,hq'.symm,h3,fun t b h5 h6=>h4 t b (by omega) h6⟩)) ⟨lk_succ rfl (by omega),rfl,rfl,rfl,rfl,rfl,trivial⟩
open Go.Chi Go.Lib Go.RowKit Go.Sort
def numX (s:ByteArray):Int:=match parseIntB 64 s.data.toList with
 | .ok n=>n
 | .range=>intSat 64 s.data.toList
 | _=>0
theorem parseIntV_ok (M:Mem) (L:HL) (s:ByteArray) (hs:s.size<1000000) (hG:G38 M):Tr Tryz.prog 134 [.string s,.int .i64 10,.int .i64 64] M L (fun v M' L'=>M=M'∧L'=L∧ ∃t,v= .tuple ⟨[.int .i64 (numX s),t]⟩):=
 tr_calls (fun w=>Tryz.call134 _ w) fun w hw=>by
  unfold numX
  cases h:parseIntB 64 s.data.toList with
  | ok n=>
    refine (Tryz.strconv_ParseInt_10_at64_ok s (by omega) n h w).mono fun e w'=> ?_
    rintro ⟨rfl,h | ⟨t,h⟩⟩
    ·exact ⟨⟨_,rfl,_,rfl⟩,h▸Below.refl _ _⟩
    ·exact ⟨⟨_,rfl,_,rfl⟩,h▸bytesWorld_below _ _ _⟩
  | range=>
    obtain ⟨tp,p,hv⟩:=hG.rng
    refine (Tryz.strconv_ParseInt_10_at64_range_var s (by omega) h tp p w (hv.var hw gRng)).mono fun e w'=> ?_
    rintro ⟨N,rfl,_,_,hb⟩
    exact ⟨⟨_,rfl,_,rfl⟩,hb⟩
  | _=>
    obtain ⟨tp,p,hv⟩:=hG.syn
    refine (Tryz.strconv_ParseInt_10_at64_syntax_var s (by omega) (by rw [h];rfl) tp p w (hv.var hw gSyn)).mono fun e w'=> ?_
    rintro ⟨N,rfl,_,_,hb⟩
    exact ⟨⟨_,rfl,_,rfl⟩,hb⟩
theorem unnumQ_ok (M:Mem) (L:HL) (s:ByteArray) (hs:s.size<1000000) (hG:G38 M):TrQ Tryz.prog 107 [.string s] M L (.int .i64 (numX s)):=by
 have hp:=fun L=>parseIntV_ok M L s hs hG
 generalize numX s=n at*
 refine Tr.intro 11 Tryz.func107 rfl rfl Tryz.call107 rfl ?_;intro C hC hro
 repeat (first | refine zc ?_ | refine vq ?_)
 refine oc (hp _) ?_
 rintro _ _ _ ⟨rfl,rfl,t,rfl⟩
 repeat (first | refine yy ?_ | refine yx fun _=> ?_)
 exact run_ret hC (rs:= [.tmp 2]) rfl (resT rfl resN) (fun _ h=>h) ⟨rfl,rfl,rfl⟩
theorem numX_dg {m:Int} (h0:0≤m) (h1:m≤2147483647):numX (dgB m)=m:=by
 have:=atoi_dec (n:=m.toNat) (by omega)
 rw [Int.toNat_of_nonneg h0,←parseIntB_64] at this
 unfold numX
 show (match parseIntB 64 (decDigits m.toNat)with | .ok n=>n | .range=>intSat 64 (dgB m).data.toList | _=>0)=m
 rw [this]
theorem rTermParse_ok (M:Mem) (L:HL) (s:ByteArray) (hs:s.size<1000000):Tr Tryz.prog 104 [.string s] M L (fun v M' L'=>M=M'∧L'=L∧ ∃(t:ByteArray) (e:Int),v= .tuple ⟨[.string t,.int .i64 e]⟩∧t.size≤16384∧((parseE s).2=0→t=(parseE s).1)):=by
 have hq:=fun M L=>rparse_ok 16 (Nat.le_refl _) M L s hs
 have hps:=fun x (h:pT 16 s=some x)=>pT_pos h
 have hE: ∀t,(∀x,pT 16 s=some x→x.2=⟨#[]⟩→t=x.1)→(parseE s).2=0→t=(parseE s).1:=fun t h1 h2=>by
  unfold parseE at h2⊢
  cases hp:pT 16 s with
  | none=>rw [hp] at h2;cases h2
  | some x=>
    rw [hp] at h2
    simp only at h2⊢
    split at h2
    ·rename_i he;rw [if_pos he];exact h1 x hp he
    ·cases h2
 generalize pT 16 s=o at*
 refine Tr.intro 20 Tryz.func104 rfl rfl Tryz.call104 rfl ?_;intro C hC hro
 repeat (first | refine yy ?_ | refine yx fun _=> ?_ | (refine oc (hq _ _) ?_;rintro _ _ _ ⟨rfl,rfl,t,n,rfl,hn,htz,htr⟩))
 refine run_cond (t:=decide (t.size=0)||((n:Int) !=(s.size:Int))) (by show some (Value.bool ((t.toList==(⟨#[]⟩:ByteArray).toList)||((n:Int) !=(s.size:Int))))=_;rw [empty_beq]) (fun h=> ?_) (fun h=> ?_)
 ·repeat (first | refine yy ?_ | refine yx fun _=> ?_)
  refine run_ret hC (rs:= [.tmp 2,.tmp 3]) rfl (resT rfl (resT rfl resN)) (fun _ h=>h) ⟨rfl,rfl,⟨#[]⟩,7,rfl,Nat.zero_le _,hE _ fun x hx he=> ?_⟩
  exfalso
  obtain ⟨g1,g2⟩:=htr x hx
  have g3:=(hps x hx).1
  rw [←g1] at g3
  rw [he] at g2
  have g4:(⟨#[]⟩:ByteArray).size=0:=rfl
  simp only [Bool.or_eq_true,decide_eq_true_eq,bne_iff_ne,ne_eq] at h
  omega
 ·repeat (first | refine yy ?_ | refine yx fun _=> ?_)
  exact run_ret hC (rs:= [.tmp 2,.tmp 3]) rfl (resT rfl (resT rfl resN)) (fun _ h=>h) ⟨rfl,rfl,t,0,rfl,htz,hE _ fun x hx _=>(htr x hx).1⟩
theorem splF_pos (s sg:ByteArray):1≤(splF s sg).length:=by
 rw [splF,List.length_map,splL]
 split
 ·exact Nat.le_refl _
 ·rw [List.length_cons];omega
def txR (names:List ByteArray) (s:ByteArray):Tx:=⟨(orgR names (atR (splF s slB) 0):Int),numX (atR (splF s slB) 1),numX (atR (splF s slB) 2)⟩
theorem splL_sz (sg:List UInt8): ∀(f:Nat) (l x:List UInt8),x∈splL sg f l→x.length≤l.length
 | 0,l,x,h=>by obtain rfl:=List.mem_singleton.1 h;exact Nat.le_refl _
 | f+1,l,x,h=>by
   rw [splL] at h
   split at h
   ·obtain rfl:=List.mem_singleton.1 h;exact Nat.le_refl _
   ·rcases List.mem_cons.1 h with rfl | h
    ·rw [List.length_take];omega
    ·have:=splL_sz sg f _ x h
     rw [List.length_drop] at this;omega
theorem splF_sz {s sg x:ByteArray} (h:x∈splF s sg):x.size≤s.size:=by
 obtain ⟨y,hy,rfl⟩:=List.mem_map.1 h
 have:=splL_sz _ _ _ _ hy
 rw [ba_len] at this
 show y.toArray.size≤_
 simpa using this
theorem atR_sz {s sg:ByteArray} (k:Nat):(atR (splF s sg) k).size≤s.size:=by
 unfold atR
 cases h:(splF s sg)[k]? with
 | none=>exact Nat.zero_le _
 | some x=>exact splF_sz (List.mem_of_getElem? h)
theorem onceF_sz (s sg:ByteArray):(onceF s sg).1.size≤s.size∧(onceF s sg).2.size≤s.size:=by
 unfold onceF
 split
 ·constructor
  ·show (s.extract _ _).size≤_;rw [ByteArray.size_extract];omega
  ·show (s.extract _ _).size≤_;rw [ByteArray.size_extract];omega
 ·exact ⟨Nat.le_refl _,Nat.zero_le _⟩
theorem runtxn_ok (M:Mem) (L:HL) (hG:G38 M) (S:SStr) (hS:StOk M S) (s:ByteArray) (hs:s.size<900000):TrQ Tryz.prog 105 [S.v,.string s] M L (.agg ⟨txC (txR S.xs s)⟩):=by
 have hsp:=fun L=>split_ok M L s slB hs (by decide) (by decide) (by decide)
 have hz0:(atR (splF s slB) 0).size<1000000:=by have:=atR_sz (s:=s) (sg:=slB) 0;omega
 have hz1:(atR (splF s slB) 1).size<1000000:=by have:=atR_sz (s:=s) (sg:=slB) 1;omega
 have hz2:(atR (splF s slB) 2).size<1000000:=by have:=atR_sz (s:=s) (sg:=slB) 2;omega
 have hlp:=splF_pos s slB
 unfold txR
 refine Tr.intro 20 Tryz.func105 rfl rfl Tryz.call105 rfl ?_;intro C hC hro
 repeat (first | refine yy ?_ | refine yx fun _=> ?_ | (refine oc (hsp _) ?_;rintro _ M1 _ ⟨hM1,rfl,T,rfl,hT,hx⟩))
 have hG1:=hG.le hM1
 have hS1:=hS.le hM1
 have hl:=hT.len
 have ht0:=hT.1
 have hat:=fun L k h=>rat_ok M1 L T hT k h
 have horg:=fun L x=>rorg_ok M1 L S hS1 x
 have hun:=fun L x h=>unnumQ_ok M1 L x h hG1
 rw [hx] at hat hl
 generalize splF s slB=xs at*
 obtain ⟨sa,sn,sc,ys⟩:=S
 obtain ⟨ta,tn,tc,zs⟩:=T
 simp only [SStr.v] at*
 subst hx
 obtain ⟨b,off,m,rfl,hm,hc⟩:=SStr.at_ ht0 (j:=0) (show 0<tn by omega)
 have e0:atR zs 0=m:=by rw [atR,hm];rfl
 rw [e0] at hz0 hC
 have h1:=fun L=>hat L 1 (by decide)
 have h2:=fun L=>hat L 2 (by decide)
 have h3:=fun L=>hun L m hz0
 generalize atR zs 1=z1 at*
 generalize atR zs 2=z2 at*
 have h4:=fun L=>hun L z1 hz1
 have h5:=fun L=>hun L z2 hz2
 have h6:=fun L=>horg L m
 clear hat hun horg
 have htn:0<tn:=by omega
 repeat (first | refine yy ?_ | refine yx fun _=> ?_ | refine qc (h6 _) ?_ | refine qc (h1 _) ?_ | refine qc (h2 _) ?_ | refine qc (h3 _) ?_ | refine qc (h4 _) ?_ | refine qc (h5 _) ?_)
 exact run_ret hC (rs:= [.cell 4 25]) rfl (rl tok rfl resN) (fun _ h=>h.drop.of_le hM1) ⟨rfl,rfl,rfl⟩
def unstF (s tx:ByteArray):Sp:=
 if (onceF s sp1).1=wSeen then ⟨1,0,0,0,numX (atR (splF (onceF s sp1).2 sp1) 0),⟨#[]⟩,[]⟩
 else if (onceF s sp1).1=wData then ⟨2,0,0,0,0,tx,[]⟩
 else if (onceF s sp1).1=wPart then ⟨3,numX (atR (splF (onceF s sp1).2 sp1) 0),0,0,numX (atR (splF (onceF s sp1).2 sp1) 1),⟨#[]⟩,[]⟩
 else if (onceF s sp1).1=wNonce then ⟨4,numX (atR (splF (onceF s sp1).2 sp1) 0),0,0,0,⟨#[]⟩,[]⟩
 else if (onceF s sp1).1=wBody then ⟨5,numX (atR (splF (onceF s sp1).2 sp1) 0),numX (atR (splF (onceF s sp1).2 sp1) 1),0,0,⟨#[]⟩,[]⟩
 else if (onceF s sp1).1=wHash then ⟨7,numX (atR (splF (onceF s sp1).2 sp1) 0),0,0,0,⟨#[]⟩,[]⟩
 else if (onceF s sp1).1=wMac then ⟨8,numX (atR (splF (onceF s sp1).2 sp1) 0),numX (atR (splF (onceF s sp1).2 sp1) 1),0,0,⟨#[]⟩,[]⟩
 else if (onceF s sp1).1=wSeal then ⟨9,numX (atR (splF (onceF s sp1).2 sp1) 0),numX (atR (splF (onceF s sp1).2 sp1) 1),numX (atR (splF (onceF s sp1).2 sp1) 2),0,⟨#[]⟩,[]⟩
 else ⟨6,0,0,0,0,⟨#[]⟩,if (onceF s sp1).2=⟨#[]⟩then [] else (splF (onceF s sp1).2 sp1).map numX⟩
def rdL (s t:ByteArray):Prop:=(parseE s).2=0→t=(parseE s).1
def rdX (s tx:ByteArray):Prop:= ∃t,rdL (onceF s sp1).2 t∧tx=(textN t).1
def noI:SIn:=⟨none,0,0,[]⟩
theorem noI_ok (M:Mem):InOk M noI:=⟨⟨rfl,(fun _ h=>by cases h),.inl rfl⟩,by decide⟩
theorem srN_ok {M:Mem} {d a b c n:Int} {t:ByteArray} (h:t.size<1099511627776):SrOk M ⟨d,a,b,c,n,t,noI⟩:=⟨noI_ok M,h⟩
theorem runstep_ok (M:Mem) (L:HL) (hG:G38 M) (s:ByteArray) (hs:s.size<900000):Tr Tryz.prog 133 [.string s] M L (fun v M' L'=>M.le M'∧L'=L∧ ∃r:Sr,v= .agg ⟨srC r⟩∧SrOk M' r∧ ∃tx,rdX s tx∧r.sp=unstF s tx):=by
 have hon:=fun L=>once_ok M L s sp1 (by omega) (by decide) (by decide)
 obtain ⟨z1,z2⟩:=onceF_sz s sp1
 have hF: ∀tx,unstF s tx=_:=fun tx=>by rw [unstF]
 unfold rdX
 generalize unstF s=F at*
 generalize onceF s sp1=P at*
 obtain ⟨W,rest⟩:=P
 simp only at hon z1 z2 hF⊢
 have hsp:=fun L=>split_ok M L rest sp1 (by omega) (by decide) (by decide) (by decide)
 have hpz:=fun k=>atR_sz (s:=rest) (sg:=sp1) k
 have hel:=fun x (h:x∈splF rest sp1)=>splF_sz h
 have hlp:=splF_pos rest sp1
 have hpa:=fun M L=>rTermParse_ok M L rest (by omega)
 generalize splF rest sp1=xs at*
 refine Tr.intro 102 Tryz.func133 rfl rfl Tryz.call133 rfl ?_;intro C hC hro
 repeat (first | refine yy ?_ | refine yx fun _=> ?_ | refine qc (hon _) ?_ | (refine oc (hsp _) ?_;rintro _ M1 _ ⟨hM1,rfl,T,rfl,hT,hx⟩))
 have hG1:=hG.le hM1
 have hl:=hT.len
 have hat:=fun L k h=>rat_ok M1 L T hT k h
 have hun:=fun L x h=>unnumQ_ok M1 L x h hG1
 rw [hx] at hat hl
 obtain ⟨ta,tn,tc,zs⟩:=T
 simp only [SStr.v] at*
 subst hx
 have hT6:=hT.2
 have ht0:=hT.1
 simp only at hT6
 obtain ⟨b,off,m,rfl,hm,hc⟩:=SStr.at_ ht0 (j:=0) (show 0<tn by omega)
 have e0:atR zs 0=m:=by rw [atR,hm];rfl
 have q0:=hpz 0
 have q1:=hpz 1
 have q2:=hpz 2
 have h1:=fun L=>hat L 1 (by decide)
 have h2:=fun L=>hat L 2 (by decide)
 rw [e0] at q0
 simp only [e0] at hF
 have h3:=fun L=>hun L m (by omega)
 generalize atR zs 1=z1 at*
 generalize atR zs 2=z2 at*
 have h4:=fun L=>hun L z1 (by omega)
 have h5:=fun L=>hun L z2 (by omega)
 clear hat hpz
 have htn:0<tn:=by omega
 repeat (first | refine yy ?_ | refine yx fun _=> ?_ | refine qc (h1 _) ?_ | refine qc (h2 _) ?_ | refine qc (h3 _) ?_ | refine qc (h4 _) ?_ | refine qc (h5 _) ?_)
 clear h1 h2 h3 h4 h5 hm hc
 refine run_cond (t:=decide (W=wSeen)) (by show some (Value.bool (W.toList==wSeen.toList))=_;rw [bytes_beq]) (fun h=> ?_) (fun h'=> ?_)
 ·have h:=of_decide_eq_true h
  simp only [if_pos h] at hF
  repeat (first | refine yy ?_ | refine yx fun _=> ?_)
  exact run_ret hC (rs:= [.cell 2 60]) rfl (rl tok rfl resN) (fun _ h=>h.drop) ⟨hM1,rfl,⟨1,0,0,0,numX m,⟨#[]⟩,noI⟩,rfl,srN_ok (by decide),_,⟨_,fun _=>rfl,rfl⟩,(hF _).symm⟩
 have h:=of_decide_eq_false h'
 simp only [if_neg h] at hF
 clear h h'
 repeat (first | refine yy ?_ | refine yx fun _=> ?_)
 refine run_cond (t:=decide (W=wData)) (by show some (Value.bool (W.toList==wData.toList))=_;rw [bytes_beq]) (fun h=> ?_) (fun h'=> ?_)
 ·have h:=of_decide_eq_true h
  simp only [if_pos h] at hF
  repeat (first | refine yy ?_ | refine yx fun _=> ?_ | (refine oc (hpa _ _) ?_;rintro _ _ _ ⟨rfl,rfl,t,e,rfl,htz,htr⟩;have hdt:=fun M L=>dtext_ok M L t (by omega);have htx:=ttextsz t) | refine qc (hdt _ _) ?_)
  exact run_ret hC (rs:= [.cell 2 60]) rfl (rl tok rfl resN) (fun _ h=>h.drop) ⟨hM1,rfl,⟨2,0,0,0,0,(textN t).1,noI⟩,rfl,srN_ok (by omega),_,⟨t,htr,rfl⟩,(hF _).symm⟩
 have h:=of_decide_eq_false h'
 simp only [if_neg h] at hF
 clear h h'
 repeat (first | refine yy ?_ | refine yx fun _=> ?_)
 refine run_cond (t:=decide (W=wPart)) (by show some (Value.bool (W.toList==wPart.toList))=_;rw [bytes_beq]) (fun h=> ?_) (fun h'=> ?_)
 ·have h:=of_decide_eq_true h
  simp only [if_pos h] at hF
  repeat (first | refine yy ?_ | refine yx fun _=> ?_)
  exact run_ret hC (rs:= [.cell 2 60]) rfl (rl tok rfl resN) (fun _ h=>h.drop) ⟨hM1,rfl,⟨3,numX m,0,0,numX z1,⟨#[]⟩,noI⟩,rfl,srN_ok (by decide),_,⟨_,fun _=>rfl,rfl⟩,(hF _).symm⟩
 have h:=of_decide_eq_false h'
 simp only [if_neg h] at hF
 clear h h'
 repeat (first | refine yy ?_ | refine yx fun _=> ?_)
 refine run_cond (t:=decide (W=wNonce)) (by show some (Value.bool (W.toList==wNonce.toList))=_;rw [bytes_beq]) (fun h=> ?_) (fun h'=> ?_)
 ·have h:=of_decide_eq_true h
  simp only [if_pos h] at hF
  repeat (first | refine yy ?_ | refine yx fun _=> ?_)
  exact run_ret hC (rs:= [.cell 2 60]) rfl (rl tok rfl resN) (fun _ h=>h.drop) ⟨hM1,rfl,⟨4,numX m,0,0,0,⟨#[]⟩,noI⟩,rfl,srN_ok (by decide),_,⟨_,fun _=>rfl,rfl⟩,(hF _).symm⟩
 have h:=of_decide_eq_false h'
 simp only [if_neg h] at hF
 clear h h'
 repeat (first | refine yy ?_ | refine yx fun _=> ?_)
 refine run_cond (t:=decide (W=wBody)) (by show some (Value.bool (W.toList==wBody.toList))=_;rw [bytes_beq]) (fun h=> ?_) (fun h'=> ?_)
 ·have h:=of_decide_eq_true h
  simp only [if_pos h] at hF
  repeat (first | refine yy ?_ | refine yx fun _=> ?_)
  exact run_ret hC (rs:= [.cell 2 60]) rfl (rl tok rfl resN) (fun _ h=>h.drop) ⟨hM1,rfl,⟨5,numX m,numX z1,0,0,⟨#[]⟩,noI⟩,rfl,srN_ok (by decide),_,⟨_,fun _=>rfl,rfl⟩,(hF _).symm⟩
 have h:=of_decide_eq_false h'
 simp only [if_neg h] at hF
 clear h h'
 repeat (first | refine yy ?_ | refine yx fun _=> ?_)
 refine run_cond (t:=decide (W=wHash)) (by show some (Value.bool (W.toList==wHash.toList))=_;rw [bytes_beq]) (fun h=> ?_) (fun h'=> ?_)
 ·have h:=of_decide_eq_true h
  simp only [if_pos h] at hF
  repeat (first | refine yy ?_ | refine yx fun _=> ?_)
  exact run_ret hC (rs:= [.cell 2 60]) rfl (rl tok rfl resN) (fun _ h=>h.drop) ⟨hM1,rfl,⟨7,numX m,0,0,0,⟨#[]⟩,noI⟩,rfl,srN_ok (by decide),_,⟨_,fun _=>rfl,rfl⟩,(hF _).symm⟩
 have h:=of_decide_eq_false h'
 simp only [if_neg h] at hF
 clear h h'
 repeat (first | refine yy ?_ | refine yx fun _=> ?_)
 refine run_cond (t:=decide (W=wMac)) (by show some (Value.bool (W.toList==wMac.toList))=_;rw [bytes_beq]) (fun h=> ?_) (fun h'=> ?_)
 ·have h:=of_decide_eq_true h
  simp only [if_pos h] at hF
  repeat (first | refine yy ?_ | refine yx fun _=> ?_)
  exact run_ret hC (rs:= [.cell 2 60]) rfl (rl tok rfl resN) (fun _ h=>h.drop) ⟨hM1,rfl,⟨8,numX m,numX z1,0,0,⟨#[]⟩,noI⟩,rfl,srN_ok (by decide),_,⟨_,fun _=>rfl,rfl⟩,(hF _).symm⟩
 have h:=of_decide_eq_false h'
 simp only [if_neg h] at hF
 clear h h'
 repeat (first | refine yy ?_ | refine yx fun _=> ?_)
 refine run_cond (t:=decide (W=wSeal)) (by show some (Value.bool (W.toList==wSeal.toList))=_;rw [bytes_beq]) (fun h=> ?_) (fun h'=> ?_)
 ·have h:=of_decide_eq_true h
  simp only [if_pos h] at hF
  repeat (first | refine yy ?_ | refine yx fun _=> ?_)
  exact run_ret hC (rs:= [.cell 2 60]) rfl (rl tok rfl resN) (fun _ h=>h.drop) ⟨hM1,rfl,⟨9,numX m,numX z1,numX z2,0,⟨#[]⟩,noI⟩,rfl,srN_ok (by decide),_,⟨_,fun _=>rfl,rfl⟩,(hF _).symm⟩
 have h:=of_decide_eq_false h'
 simp only [if_neg h] at hF
 clear h h'
 repeat (first | refine yy ?_ | refine yx fun _=> ?_)
 rename_i b2 b13
 have hlz:zs.length=tn:=hl
 have hP0:rest=⟨#[]⟩→(if rest=⟨#[]⟩then ([]:List Int)else zs.map numX)= []:=fun h=>if_pos h
 have hP1:rest≠⟨#[]⟩→(if rest=⟨#[]⟩then ([]:List Int)else zs.map numX)=zs.map numX:=fun h=>if_neg h
 generalize (if rest=⟨#[]⟩then ([]:List Int)else zs.map numX)=ys at*
 refine run_loopN (fun j σ1 M3 L3=>j≤tn∧M1=M3∧ ∃a c N xs,xs.length=j∧(rest=⟨#[]⟩→j=0)∧xs=(zs.take j).map numX∧L3=(b13,.cells ⟨spC (sp0 6) (.slice a j c)⟩ 60 (0,0))::(N++(b2,.cells ⟨spC (sp0 0) (.slice none 0 0)⟩ 60 (0,0))::L)∧OS 3 1 (.slice a j c) j (xs.map (Value.int .i64)) N∧σ1= [(14,iv j),(13,pt b13),(5,.slice (some ⟨b,off,none⟩) tn tc),(4,.string rest),(2,pt b2)]) tn [(14,iv 0),(13,pt b13),(5,.slice (some ⟨b,off,none⟩) tn tc),(4,.string rest),(2,pt b2)] ?_ ⟨Nat.zero_le _,rfl,none,0,[],[],rfl,(fun _=>rfl),rfl,rfl,.inl ⟨rfl,rfl,rfl,rfl⟩,rfl⟩ (fun j _ _ _ h=>h.1) ?_
 ·exact ⟨rfl,rfl,rfl,rfl,rfl,trivial⟩
 rintro j _ _ _ ⟨hj,rfl,a,c,N,xs,hxs,hr0,hxe,rfl,hO,rfl⟩ hnext
 repeat (first | refine yy ?_ | refine yx fun _=> ?_)
 refine run_cond (t:=decide ((j:Int)<(tn:Int))&& !(rest.toList==(⟨#[]⟩:ByteArray).toList)) rfl (fun h=> ?_) (fun h=> ?_)
 rotate_left
 ·have hys:ys=xs:=by
   by_cases h0:rest=⟨#[]⟩
   ·have hj0:=hr0 h0
    rw [hP0 h0,hxe,hj0];rfl
   ·rw [bytes_beq] at h
    have hge: ¬j<tn:=fun h1=>by simp [h0,h1] at h
    rw [hP1 h0,hxe,List.take_of_length_le (by omega)]
  repeat (first | refine yy ?_ | refine yx fun _=> ?_)
  refine run_mem (fun _ h=>h.perm List.perm_middle.symm) ?_
  refine run_frzL N fun M5 hM5 hb=> ?_
  repeat (first | refine yy ?_ | refine yx fun _=> ?_)
  rw [strsI_flat] at hO
  exact run_ret hC (rs:= [.cell 2 60]) rfl (rl tok rfl resN) (fun _ h=>h.drop.drop) ⟨Mem.le_trans hM1 hM5,rfl,⟨6,0,0,0,0,⟨#[]⟩,⟨a,j,c,xs⟩⟩,rfl,⟨⟨OS.toM hO (fun l hl=>by obtain ⟨x,_,rfl⟩:=List.mem_map.1 hl;rfl) (by simpa using hxs) hb,by show j<1000000;omega⟩,by show (0:Nat)<_;decide⟩,_,⟨_,fun _=>rfl,rfl⟩,by rw [hF,hys];rfl⟩
 rw [bytes_beq] at h
 simp only [Bool.and_eq_true,Bool.not_eq_true',decide_eq_false_iff_not,decide_eq_true_eq] at h
 obtain ⟨h1,h0⟩:=h
 have hlt:j<tn:=by omega
 obtain ⟨b',off',m',e',hm',hc'⟩:=SStr.at_ ht0 hlt
 cases e'
 have hmz:=hel m' (List.mem_of_getElem? hm')
 have h3:=fun L=>hun L m' (by omega)
 repeat (first | refine yy ?_ | refine dd ?_ | refine yd ?_ | refine yx fun _=> ?_ | refine pc (h3 _) ?_ | (refine pe rfl (st_app1x (news:= [.int .i64 (numX m')]) tok rfl rfl rfl rfl rfl rfl rfl rfl hO rfl (by simp [Value.oneCell']) (by omega) (by omega)) ?_;rintro _ _ _ ⟨rfl,N',a',c',rfl,rfl,hO'⟩))
 refine run_sub' (hnext _ _ _ ⟨by omega,rfl,a',c',N',xs++ [numX m'],by rw [List.length_append,hxs];rfl,fun h=>absurd h h0,by rw [hxe,take_snoc hm',List.map_append];rfl,rfl,by rw [List.map_append];exact hO',rfl⟩) ⟨lk_succ rfl (by omega),rfl,rfl,rfl,rfl,trivial⟩
def stR:List ByteArray→List Sp→Prop
 | [],[]=>True
 | p::ps,x::xs=>(∃tx,rdX p tx∧x=unstF p tx)∧stR ps xs
 | _,_=>False
theorem stR_snoc {p:ByteArray} {x:Sp} (h: ∃tx,rdX p tx∧x=unstF p tx): ∀ {ps:List ByteArray} {xs:List Sp},stR ps xs→stR (ps++ [p]) (xs++ [x])
 | [],[],_=>⟨h,trivial⟩
 | _::_,_::_,h1=>⟨h1.1,stR_snoc h h1.2⟩
 | [],_::_,h1=>h1.elim
 | _::_,[],h1=>h1.elim
def ussR (s:ByteArray) (l:List Sp):Prop:=if s=wNothing then l= [] else stR (splF s plusB) l
theorem runsteps_ok (M:Mem) (L:HL) (hG:G38 M) (s:ByteArray) (hs:s.size<900000):Tr Tryz.prog 106 [.string s] M L (fun v M' L'=>M.le M'∧L'=L∧ ∃S:SSr,v=S.v∧SsOk M' S∧ussR s (S.xs.map Sr.sp)):=by
 have hsp:=fun L=>split_ok M L s plusB hs (by decide) (by decide) (by decide)
 have hel:=fun x (h:x∈splF s plusB)=>splF_sz h
 unfold ussR
 generalize splF s plusB=ps at*
 refine Tr.intro 25 Tryz.func106 rfl rfl Tryz.call106 rfl ?_;intro C hC hro
 repeat (first | refine yy ?_ | refine yx fun _=> ?_)
 refine run_cond (t:=decide (s=wNothing)) (by show some (Value.bool (s.toList==wNothing.toList))=_;rw [bytes_beq]) (fun h=> ?_) (fun h=> ?_)
 ·have h:=of_decide_eq_true h
  simp only [if_pos h] at hC
  repeat (first | refine yy ?_ | refine yx fun _=> ?_)
  exact run_ret hC (rs:= [.tmp 2]) rfl (resT rfl resN) (fun _ h=>h) ⟨Mem.le_refl _,rfl,noS,rfl,noS_ok _,rfl⟩
 have h:=of_decide_eq_false h
 simp only [if_neg h] at hC
 repeat (first | refine yy ?_ | refine yx fun _=> ?_ | (refine oc (hsp _) ?_;rintro _ M1 L ⟨hM1,rfl,T,rfl,hT,hx⟩))
 have hG1:=hG.le hM1
 have hl:=hT.len
 obtain ⟨ta,tn,tc,zs⟩:=T
 simp only [SStr.v] at*
 subst hx
 have hT6:=hT.2
 simp only at hT6
 refine run_loopN (fun j σ1 M3 L3=>j≤tn∧M1.le M3∧ ∃a c N rs,rs.length=j∧L3=N++L∧OS 60 7 (.slice a j c) j (rs.map srC).flatten N∧(∀r∈rs,SrOk M3 r)∧stR (zs.take j) (rs.map Sr.sp)∧σ1= [(5,iv j),(3,.slice a j c),(4,.slice ta tn tc)]) tn [(5,iv 0),(3,.slice none 0 0),(4,.slice ta tn tc)] ?_ ⟨Nat.zero_le _,Mem.le_refl _,none,0,[],[],rfl,rfl,.inl ⟨rfl,rfl,rfl,rfl⟩,(fun _ h=>by cases h),by rw [List.take_zero];trivial,rfl⟩ (fun j _ _ _ h=>h.1) ?_
 ·exact ⟨rfl,rfl,rfl,trivial⟩
 rintro j _ M3 _ ⟨hj,hM3,a,c,N,rs,hrs,rfl,hO,hok,hst,rfl⟩ hnext
 have hG3:=hG1.le hM3
 have ht0:=hT.1.le hM3
 repeat (first | refine yy ?_ | refine yx fun _=> ?_)
 refine run_cond (t:=decide ((j:Int)<(tn:Int))) rfl (fun h=> ?_) (fun h=> ?_)
 rotate_left
 ·have hge:j=tn:=by have:=of_decide_eq_false h;omega
  rw [List.take_of_length_le (by omega)] at hst
  repeat (first | refine yy ?_ | refine yx fun _=> ?_)
  refine run_frzL N fun M5 hM5 hb=> ?_
  exact run_ret hC (rs:= [.tmp 2]) rfl (resT rfl resN) (fun _ h=>h) ⟨Mem.le_trans hM1 (Mem.le_trans hM3 hM5),rfl,⟨a,j,c,rs⟩,rfl,⟨OS.toM hO (fun l hl=>by obtain ⟨x,_,rfl⟩:=List.mem_map.1 hl;rfl) (by simpa using hrs) hb,by show j<1000000;omega,fun x hx=>(hok x hx).le hM5⟩,hst⟩
 have hlt:j<tn:=by have:=of_decide_eq_true h;omega
 obtain ⟨b',off',m',rfl,hm',hc'⟩:=SStr.at_ ht0 hlt
 have hmz:=hel m' (List.mem_of_getElem? hm')
 have h3:=fun L=>runstep_ok M3 L hG3 m' (by omega)
 repeat (first | refine yy ?_ | refine yx fun _=> ?_ | (refine oc (h3 _) ?_;rintro _ M4 _ ⟨hM4,rfl,r,rfl,hr,hrx⟩) | (refine runL_op (st_app1 (news:=srC r) tok rfl rfl rfl rfl rfl rfl rfl rfl hO rfl (srC_one r) (by omega) (by omega)) rfl rfl rfl ?_;rintro _ _ _ ⟨rfl,N',a',c',rfl,rfl,hO'⟩))
 refine run_sub' (hnext _ _ _ ⟨by omega,Mem.le_trans hM3 hM4,a',c',N',rs++ [r],by rw [List.length_append,hrs];rfl,rfl,by rw [List.map_append,List.flatten_append];simpa using hO', ?_,by rw [take_snoc hm',List.map_append];exact stR_snoc hrx hst,rfl⟩) ⟨lk_succ rfl (by omega),rfl,rfl,trivial⟩
 intro q hq
 rcases List.mem_append.1 hq with hq | hq
 ·exact (hok q hq).le hM4
 ·obtain rfl:=List.mem_singleton.1 hq
  exact hr
def wY3:ByteArray:=⟨#[121,101,115]⟩
def wA4:ByteArray:=⟨#[97,110,101,119]⟩
def gv1R (names:List ByteArray) (p:ByteArray) (m:Mb):Prop:= ∃t,rdL (onceF p sp1).2 t∧m=⟨(orgR names (onceF p sp1).1:Int),t⟩
def gvsR (names:List ByteArray):List ByteArray→List Mb→Prop
 | [],[]=>True
 | p::ps,x::xs=>gv1R names p x∧gvsR names ps xs
 | _,_=>False
theorem gvsR_snoc {names:List ByteArray} {p:ByteArray} {x:Mb} (h:gv1R names p x): ∀ {ps:List ByteArray} {xs:List Mb},gvsR names ps xs→gvsR names (ps++ [p]) (xs++ [x])
 | [],[],_=>⟨h,trivial⟩
 | _::_,_::_,h1=>⟨h1.1,gvsR_snoc h h1.2⟩
 | [],_::_,h1=>h1.elim
 | _::_,[],h1=>h1.elim
def gvR (names:List ByteArray) (g:ByteArray) (l:List Mb):Prop:=if g=⟨#[]⟩then l= [] else gvsR names (splF g semB) l
def vbR (names:List ByteArray) (o:Int) (verb more:ByteArray) (a:Aa):Prop:=
 if verb=wBegins then (if more=wA4 then a=⟨8,o,0,0,[],tz,false,[]⟩
   else ∃gv,gvR names (onceF more colB).2 gv∧a=⟨1,o,(orgR names (onceF (onceF more colB).1 sp1).2:Int),0,gv,tz,false,[]⟩)
 else if verb=wSays then a=⟨2,o,0,0,[],txR names (atR (splF more sp1) ((splF more sp1).length-1)),decide (atR (splF more sp1) 0=wY3),[]⟩
 else if verb=wTicks then a=⟨3,o,0,0,[],tz,false,[]⟩
 else if verb=wGets then ∃st,ussR more st∧a=⟨5,o,0,0,[],tz,false,st⟩
 else if verb=wStops then a=⟨6,o,0,numX (atR (splF more sp1) ((splF more sp1).length-1)),[],tz,false,[]⟩
 else if verb=wCrashes then a=⟨7,o,0,numX (atR (splF more sp1) ((splF more sp1).length-1)),[],tz,false,[]⟩
 else if verb=wShows then a=⟨9,o,0,0,[],txR names more,false,[]⟩
 else if verb=wJudges then ∃st,ussR more st∧a=⟨10,o,0,0,[],tz,false,st⟩
 else a=⟨4,0,0,numX verb,[],tz,false,[]⟩
def actR (names:List ByteArray) (s:ByteArray) (a:Aa):Prop:=vbR names (orgR names (onceF s sp1).1:Int) (onceF (onceF s sp1).2 sp1).1 (onceF (onceF s sp1).2 sp1).2 a
theorem axN_ok {M:Mem} {d o au n:Int} {t:Tx} {y:Bool} :AxOk M ⟨d,o,au,n,noG,t,y,noS⟩:=⟨MbOk.nil _,noS_ok _,fun _ h=>by cases h⟩
theorem rof_ok (M:Mem) (L:HL) (hG:G38 M) (S:SStr) (hS:StOk M S) (s:ByteArray) (hs:s.size<900000):Tr Tryz.prog 58 [S.v,.string s] M L (fun v M' L'=>M.le M'∧L'=L∧ ∃ax:Ax,v= .agg ⟨axC ax⟩∧AxOk M' ax∧actR S.xs s ax.aa):=by
 have ho1:=fun L=>once_ok M L s sp1 (by omega) (by decide) (by decide)
 obtain ⟨z1,z2⟩:=onceF_sz s sp1
 unfold actR
 generalize onceF s sp1=P at*
 obtain ⟨o,rest⟩:=P
 simp only at ho1 z1 z2⊢
 have ho2:=fun L=>once_ok M L rest sp1 (by omega) (by decide) (by decide)
 obtain ⟨z3,z4⟩:=onceF_sz rest sp1
 generalize onceF rest sp1=P at*
 obtain ⟨verb,more⟩:=P
 simp only at ho2 z3 z4⊢
 have hsp:=fun L=>split_ok M L more sp1 (by omega) (by decide) (by decide) (by decide)
 have hel:=fun x (h:x∈splF more sp1)=>splF_sz h
 have hlp:=splF_pos more sp1
 have horg:=fun L=>rorg_ok M L S hS o
 have hF: ∀a,vbR S.xs (orgR S.xs o:Int) verb more a=_:=fun a=>by rw [vbR]
 generalize vbR S.xs (orgR S.xs o:Int) verb more=F at*
 generalize orgR S.xs o=og at*
 generalize splF more sp1=zs at*
 obtain ⟨sa,sn,sc,names⟩:=S
 simp only [SStr.v] at*
 refine Tr.intro 151 Tryz.func58 rfl rfl Tryz.call58 rfl ?_;intro C hC hro
 repeat (first | refine yy ?_ | refine yx fun _=> ?_ | refine qc (ho1 _) ?_ | refine qc (ho2 _) ?_ | refine qc (horg _) ?_ | (refine oc (hsp _) ?_;rintro _ M1 _ ⟨hM1,rfl,T,rfl,hT,hx⟩))
 have hG1:=hG.le hM1
 have hS1:=hS.le hM1
 have hl:=hT.len
 rw [hx] at hl
 obtain ⟨ta,tn,tc,zs'⟩:=T
 simp only [SStr.v] at*
 subst hx
 have hT6:=hT.2
 have ht0:=hT.1
 simp only at hT6
 obtain ⟨b,off,m,rfl,hm,hc⟩:=SStr.at_ ht0 (j:=0) (show 0<tn by omega)
 obtain ⟨b',off',last,e',hlast,hcl⟩:=SStr.at_ ht0 (j:=tn-1) (show tn-1<tn by omega)
 cases e'
 have e0:atR zs' 0=m:=by rw [atR,hm];rfl
 have e1:atR zs' (zs'.length-1)=last:=by rw [atR,hl,hlast];rfl
 have q0:=hel m (List.mem_of_getElem? hm)
 have q1:=hel last (List.mem_of_getElem? hlast)
 simp only [e0,e1] at hF
 have hw:IntKind.i64.wrap ((tn:Int)-1)=((tn-1:Nat):Int):=by rw [show (tn:Int)-1=((tn-1:Nat):Int) by omega,wrap64_nat (by omega)]
 have htn:0<tn:=by omega
 have htl:tn-1<tn:=by omega
 refine runL_as 41 (iv (tn-1)) rfl (congrArg (Value.int .i64) hw) ?_
 repeat (first | refine yy ?_ | refine yx fun _=> ?_)
 have huL:=fun L=>unnumQ_ok M1 L last (by omega) hG1
 have huV:=fun L=>unnumQ_ok M1 L verb (by omega) hG1
 have htL:=fun L=>runtxn_ok M1 L hG1 ⟨sa,sn,sc,names⟩ hS1 last (by omega)
 have htM:=fun L=>runtxn_ok M1 L hG1 ⟨sa,sn,sc,names⟩ hS1 more (by omega)
 have hst:=fun L=>runsteps_ok M1 L hG1 more (by omega)
 have hyes:((m.toList==wY3.toList):Bool)=decide (m=wY3):=bytes_beq _ _
 simp only [SStr.v] at htL htM
 refine run_cond (t:=decide (verb=wBegins)) (by show some (Value.bool (verb.toList==wBegins.toList))=_;rw [bytes_beq]) (fun h=> ?_) (fun h'=> ?_)
 ·replace h:=of_decide_eq_true h
  simp only [if_pos h] at hF
  repeat (first | refine yy ?_ | refine yx fun _=> ?_)
  refine run_cond (t:=decide (more=wA4)) (by show some (Value.bool (more.toList==wA4.toList))=_;rw [bytes_beq]) (fun h=> ?_) (fun h'=> ?_)
  ·have h:=of_decide_eq_true h
   simp only [if_pos h] at hF
   repeat (first | refine yy ?_ | refine yx fun _=> ?_)
   exact run_ret hC (rs:= [.cell 4 28]) rfl (rl tok rfl resN) (fun _ h=>h.drop.drop) ⟨hM1,rfl,⟨8,og,0,0,noG,tz,false,noS⟩,rfl,axN_ok,by rw [hF];rfl⟩
  have h:=of_decide_eq_false h'
  simp only [if_neg h] at hF
  clear h h' huL huV htL htM hst hyes
  have hoc:=fun L=>once_ok M1 L more colB (by omega) (by decide) (by decide)
  obtain ⟨z5,z6⟩:=onceF_sz more colB
  generalize onceF more colB=P at*
  obtain ⟨head,g⟩:=P
  simp only at hoc z5 z6 hF
  have hoh:=fun L=>once_ok M1 L head sp1 (by omega) (by decide) (by decide)
  obtain ⟨z7,z8⟩:=onceF_sz head sp1
  generalize onceF head sp1=P at*
  obtain ⟨w0,who⟩:=P
  simp only at hoh z7 z8 hF
  have hou:=fun L=>rorg_ok M1 L ⟨sa,sn,sc,names⟩ hS1 who
  simp only [SStr.v] at hou
  generalize orgR names who=au at*
  have hsg:=fun L=>split_ok M1 L g semB (by omega) (by decide) (by decide) (by decide)
  have heg:=fun x (h:x∈splF g semB)=>splF_sz h
  have hgv: ∀l,gvR names g l=(if g=⟨#[]⟩then l= [] else gvsR names (splF g semB) l):=fun _=>rfl
  generalize gvR names g=GV at*
  generalize splF g semB=gs at*
  repeat (first | refine yy ?_ | refine yx fun _=> ?_ | refine qc (hoc _) ?_ | refine qc (hoh _) ?_ | refine qc (hou _) ?_ | (refine oc (hsg _) ?_;rintro _ M2 _ ⟨hM2,rfl,T,rfl,hT2,hx2⟩))
  rename_i b4 b9
  have hS2:=hS1.le hM2
  have hl2:=hT2.len
  rw [hx2] at hl2
  obtain ⟨ga,gn,gc,gs'⟩:=T
  simp only [SStr.v] at*
  subst hx2
  have hT26:=hT2.2
  have hg0:=hT2.1
  simp only at hT26
  refine run_loopN (fun j σ1 M3 L3=>j≤gn∧M2=M3∧ ∃a c N ms,ms.length=j∧(g=⟨#[]⟩→j=0)∧(∀m∈ms,m.digest.size<1099511627776)∧gvsR names (gs'.take j) ms∧L3=(b9,.cells ⟨axC ⟨1,og,au,0,⟨a,j,c,ms⟩,tz,false,noS⟩⟩ 28 (0,0))::(N++(b4,.cells ⟨axC ⟨0,0,0,0,noG,tz,false,noS⟩⟩ 28 (0,0))::L)∧OS 57 2 (.slice a j c) j (ms.map mbC).flatten N∧σ1= [(17,iv j),(16,.slice ga gn gc),(13,.string g),(9,pt b9),(4,pt b4),(0,.slice sa sn sc)]) gn [(17,iv 0),(16,.slice ga gn gc),(13,.string g),(9,pt b9),(4,pt b4),(0,.slice sa sn sc)] ?_ ⟨Nat.zero_le _,rfl,none,0,[],[],rfl,(fun _=>rfl),(fun _ h=>by cases h),by rw [List.take_zero];trivial,rfl,.inl ⟨rfl,rfl,rfl,rfl⟩,rfl⟩ (fun j _ _ _ h=>h.1) ?_
  ·exact ⟨rfl,rfl,rfl,rfl,rfl,rfl,trivial⟩
  rintro j _ _ _ ⟨hj,rfl,a,c,N,ms,hms,hr0,hpay,hgs,rfl,hO,rfl⟩ hnext
  repeat (first | refine yy ?_ | refine yx fun _=> ?_)
  refine run_cond (t:=decide ((j:Int)<(gn:Int))&& !(g.toList==(⟨#[]⟩:ByteArray).toList)) rfl (fun h=> ?_) (fun h=> ?_)
  rotate_left
  ·have hys:GV ms:=by
    rw [hgv]
    by_cases h0:g=⟨#[]⟩
    ·rw [if_pos h0,←List.length_eq_zero_iff,hms];exact hr0 h0
    ·rw [bytes_beq] at h
     have hge: ¬j<gn:=fun h1=>by simp [h0,h1] at h
     rw [if_neg h0]
     rwa [List.take_of_length_le (by omega)] at hgs
   repeat (first | refine yy ?_ | refine yx fun _=> ?_)
   refine run_mem (fun _ h=>h.perm List.perm_middle.symm) ?_
   refine run_frzL N fun M5 hM5 hb=> ?_
   repeat (first | refine yy ?_ | refine yx fun _=> ?_)
   exact run_ret hC (rs:= [.cell 4 28]) rfl (rl tok rfl resN) (fun _ h=>h.drop.drop) ⟨Mem.le_trans hM1 (Mem.le_trans hM2 hM5),rfl,⟨1,og,au,0,⟨a,j,c,ms⟩,tz,false,noS⟩,rfl,⟨⟨OS.toM hO (fun l hl=>by obtain ⟨x,_,rfl⟩:=List.mem_map.1 hl;rfl) (by simpa using hms) hb,by show j<1000000;omega⟩,noS_ok _,hpay⟩,by rw [hF];exact ⟨_,hys,rfl⟩⟩
  rw [bytes_beq] at h
  simp only [Bool.and_eq_true,Bool.not_eq_true',decide_eq_false_iff_not,decide_eq_true_eq] at h
  obtain ⟨h1,h0⟩:=h
  have hlt:j<gn:=by omega
  obtain ⟨b',off',m',rfl,hm',hc'⟩:=SStr.at_ hg0 hlt
  have hmz:=heg m' (List.mem_of_getElem? hm')
  have hone: ∀t,rdL (onceF m' sp1).2 t→gv1R names m' ⟨(orgR names (onceF m' sp1).1:Int),t⟩:=fun t h=>⟨t,h,rfl⟩
  have ho3:=fun L=>once_ok M2 L m' sp1 (by omega) (by decide) (by decide)
  obtain ⟨z9,z10⟩:=onceF_sz m' sp1
  generalize onceF m' sp1=P at*
  obtain ⟨to,ln⟩:=P
  simp only at ho3 z9 z10 hone
  have hpl:=fun M L=>rTermParse_ok M L ln (by omega)
  have hto:=fun L=>rorg_ok M2 L ⟨sa,sn,sc,names⟩ hS2 to
  simp only [SStr.v] at hto
  generalize orgR names to=ot at*
  repeat (first | refine yy ?_ | refine dd ?_ | refine yd ?_ | refine yx fun _=> ?_ | refine qc (ho3 _) ?_ | (refine oc (hpl _ _) ?_;rintro _ _ _ ⟨rfl,rfl,t,e,rfl,htz,htr⟩) | refine pc (hto _) ?_ | (refine pe rfl (st_app1x (n:=j) (news:=mbC ⟨(ot:Int),t⟩) tok rfl rfl rfl rfl rfl rfl rfl rfl hO rfl (mbC_one _) (by omega) (by omega)) ?_;rintro _ _ _ ⟨rfl,N',a',c',rfl,rfl,hO'⟩))
  refine run_sub' (hnext _ _ _ ⟨by omega,rfl,a',c',N',ms++ [⟨(ot:Int),t⟩],by rw [List.length_append,hms];rfl,fun h=>absurd h h0, ?_,by rw [take_snoc hm'];exact gvsR_snoc (hone t htr) hgs,rfl,by rw [List.map_append,List.flatten_append];simpa using hO',rfl⟩) ⟨lk_succ rfl (by omega),rfl,rfl,rfl,rfl,rfl,trivial⟩
  intro q hq
  rcases List.mem_append.1 hq with hq | hq
  ·exact hpay q hq
  ·obtain rfl:=List.mem_singleton.1 hq
   show t.size<_;omega
 have h:=of_decide_eq_false h'
 simp only [if_neg h] at hF
 clear h h'
 repeat (first | refine yy ?_ | refine yx fun _=> ?_)
 refine run_cond (t:=decide (verb=wSays)) (by show some (Value.bool (verb.toList==wSays.toList))=_;rw [bytes_beq]) (fun h=> ?_) (fun h'=> ?_)
 ·have h:=of_decide_eq_true h
  simp only [if_pos h] at hF
  repeat (first | refine yy ?_ | refine yx fun _=> ?_ | refine qc (htL _) ?_)
  exact run_ret hC (rs:= [.cell 4 28]) rfl (rl tok rfl resN) (fun _ h=>h.drop.drop) ⟨hM1,rfl,⟨2,og,0,0,noG,txR names last,m.toList==wY3.toList,noS⟩,rfl,axN_ok,by rw [hF,hyes];rfl⟩
 have h:=of_decide_eq_false h'
 simp only [if_neg h] at hF
 clear h h'
 repeat (first | refine yy ?_ | refine yx fun _=> ?_)
 refine run_cond (t:=decide (verb=wTicks)) (by show some (Value.bool (verb.toList==wTicks.toList))=_;rw [bytes_beq]) (fun h=> ?_) (fun h'=> ?_)
 ·have h:=of_decide_eq_true h
  simp only [if_pos h] at hF
  repeat (first | refine yy ?_ | refine yx fun _=> ?_)
  exact run_ret hC (rs:= [.cell 4 28]) rfl (rl tok rfl resN) (fun _ h=>h.drop.drop) ⟨hM1,rfl,⟨3,og,0,0,noG,tz,false,noS⟩,rfl,axN_ok,by rw [hF];rfl⟩
 have h:=of_decide_eq_false h'
 simp only [if_neg h] at hF
 clear h h'
 repeat (first | refine yy ?_ | refine yx fun _=> ?_)
 refine run_cond (t:=decide (verb=wGets)) (by show some (Value.bool (verb.toList==wGets.toList))=_;rw [bytes_beq]) (fun h=> ?_) (fun h'=> ?_)
 ·have h:=of_decide_eq_true h
  simp only [if_pos h] at hF
  repeat (first | refine yy ?_ | refine yx fun _=> ?_ | (refine oc (hst _) ?_;rintro _ M2 _ ⟨hM2,rfl,T,rfl,hT2,hus⟩))
  obtain ⟨ua,un,uc,us⟩:=T
  exact run_ret hC (rs:= [.cell 4 28]) rfl (rl tok rfl resN) (fun _ h=>h.drop.drop) ⟨Mem.le_trans hM1 hM2,rfl,⟨5,og,0,0,noG,tz,false,⟨ua,un,uc,us⟩⟩,rfl,⟨MbOk.nil _,hT2,fun _ h=>by cases h⟩,by rw [hF];exact ⟨_,hus,rfl⟩⟩
 have h:=of_decide_eq_false h'
 simp only [if_neg h] at hF
 clear h h'
 repeat (first | refine yy ?_ | refine yx fun _=> ?_)
 refine run_cond (t:=decide (verb=wStops)) (by show some (Value.bool (verb.toList==wStops.toList))=_;rw [bytes_beq]) (fun h=> ?_) (fun h'=> ?_)
 ·have h:=of_decide_eq_true h
  simp only [if_pos h] at hF
  repeat (first | refine yy ?_ | refine yx fun _=> ?_ | refine qc (huL _) ?_)
  exact run_ret hC (rs:= [.cell 4 28]) rfl (rl tok rfl resN) (fun _ h=>h.drop.drop) ⟨hM1,rfl,⟨6,og,0,numX last,noG,tz,false,noS⟩,rfl,axN_ok,by rw [hF];rfl⟩
 have h:=of_decide_eq_false h'
 simp only [if_neg h] at hF
 clear h h'
 repeat (first | refine yy ?_ | refine yx fun _=> ?_)
 refine run_cond (t:=decide (verb=wCrashes)) (by show some (Value.bool (verb.toList==wCrashes.toList))=_;rw [bytes_beq]) (fun h=> ?_) (fun h'=> ?_)
 ·have h:=of_decide_eq_true h
  simp only [if_pos h] at hF
  repeat (first | refine yy ?_ | refine yx fun _=> ?_ | refine qc (huL _) ?_)
  exact run_ret hC (rs:= [.cell 4 28]) rfl (rl tok rfl resN) (fun _ h=>h.drop.drop) ⟨hM1,rfl,⟨7,og,0,numX last,noG,tz,false,noS⟩,rfl,axN_ok,by rw [hF];rfl⟩
 have h:=of_decide_eq_false h'
 simp only [if_neg h] at hF
 clear h h'
 repeat (first | refine yy ?_ | refine yx fun _=> ?_)
 refine run_cond (t:=decide (verb=wShows)) (by show some (Value.bool (verb.toList==wShows.toList))=_;rw [bytes_beq]) (fun h=> ?_) (fun h'=> ?_)
 ·have h:=of_decide_eq_true h
  simp only [if_pos h] at hF
  repeat (first | refine yy ?_ | refine yx fun _=> ?_ | refine qc (htM _) ?_)
  exact run_ret hC (rs:= [.cell 4 28]) rfl (rl tok rfl resN) (fun _ h=>h.drop.drop) ⟨hM1,rfl,⟨9,og,0,0,noG,txR names more,false,noS⟩,rfl,axN_ok,by rw [hF];rfl⟩
 have h:=of_decide_eq_false h'
 simp only [if_neg h] at hF
 clear h h'
 repeat (first | refine yy ?_ | refine yx fun _=> ?_)
 refine run_cond (t:=decide (verb=wJudges)) (by show some (Value.bool (verb.toList==wJudges.toList))=_;rw [bytes_beq]) (fun h=> ?_) (fun h'=> ?_)
 ·have h:=of_decide_eq_true h
  simp only [if_pos h] at hF
  repeat (first | refine yy ?_ | refine yx fun _=> ?_ | (refine oc (hst _) ?_;rintro _ M2 _ ⟨hM2,rfl,T,rfl,hT2,hus⟩))
  obtain ⟨ua,un,uc,us⟩:=T
  exact run_ret hC (rs:= [.cell 4 28]) rfl (rl tok rfl resN) (fun _ h=>h.drop.drop) ⟨Mem.le_trans hM1 hM2,rfl,⟨10,og,0,0,noG,tz,false,⟨ua,un,uc,us⟩⟩,rfl,⟨MbOk.nil _,hT2,fun _ h=>by cases h⟩,by rw [hF];exact ⟨_,hus,rfl⟩⟩
 have h:=of_decide_eq_false h'
 simp only [if_neg h] at hF
 clear h h'
 repeat (first | refine yy ?_ | refine yx fun _=> ?_ | refine qc (huV _) ?_)
 exact run_ret hC (rs:= [.cell 4 28]) rfl (rl tok rfl resN) (fun _ h=>h.drop.drop) ⟨hM1,rfl,⟨4,0,0,numX verb,noG,tz,false,noS⟩,rfl,axN_ok,by rw [hF];rfl⟩
theorem pre_ne {b c:UInt8} (h:b≠c) (t l:List UInt8):hasPrefix (b::l) (c::t)=false:=by
 show List.isPrefixOf (c::t) (b::l)=false
 rw [List.isPrefixOf];simp [Ne.symm h]
theorem pre_app (p r:List UInt8):hasPrefix (p++r) p=true:=List.isPrefixOf_iff_prefix.2 (List.prefix_append _ _)
theorem scn_no {c:UInt8} {t:List UInt8} : ∀ {u:List UInt8},(∀b∈u,b≠34∧b≠c)→Scn (c::t) u
 | [],_=>fun r=>by rw [List.nil_append,List.length_nil,Nat.zero_add]
 | b::u,hu=>fun r=>by
   have hb:=hu b List.mem_cons_self
   rw [List.cons_append,scanF,pre_ne hb.2,if_pos (by decide),if_neg hb.1,scn_no (fun c hc=>hu c (List.mem_cons_of_mem _ hc)) r,List.length_cons]
   omega
theorem scan0 {sg r:List UInt8} (hg:sg≠ []):scanF sg (sg++r) false=0:=by
 cases sg with
 | nil=>exact absurd rfl hg
 | cons b t=>
   have h:=pre_app (b::t) r
   rw [List.cons_append] at h⊢
   rw [scanF,h,if_neg (by decide)]
theorem splL_app {sg p r:List UInt8} (hs:Scn sg p) (hg:sg≠ []) (f:Nat):splL sg (f+1) (p++(sg++r))=p::splL sg f r:=by
 have hl:0<sg.length:=List.length_pos_iff.2 hg
 rw [splL,hs,scan0 hg,Nat.add_zero,if_neg (by rw [List.length_append,List.length_append];omega),List.take_left' rfl,←List.append_assoc,List.drop_left' (by rw [List.length_append])]
theorem splL_last {sg p:List UInt8} (hs:Scn sg p) (f:Nat):splL sg (f+1) p= [p]:=by
 have h:=hs []
 rw [List.append_nil] at h
 rw [splL,h,scanF,Nat.add_zero,if_pos rfl]
theorem seq_false (sg x:ByteArray) (l:List ByteArray):seqC sg false (x::l)=sg++seqC sg true (x::l):=by
 rw [seqC,seqC,if_neg (by decide),if_pos rfl,app_assoc]
theorem splL_seq {sg:ByteArray} (hg:sg.data.toList≠ []): ∀(l:List ByteArray) (x:ByteArray) (f:Nat),l.length<f→(∀p∈x::l,Scn sg.data.toList p.data.toList)→splL sg.data.toList f (seqC sg true (x::l)).data.toList=(x::l).map fun p=>p.data.toList
 | [],x,f,hf,hp=>by
   obtain ⟨f,rfl⟩: ∃k,f=k+1:=⟨f-1,by simp at hf;omega⟩
   have e:seqC sg true [x]=x:=app_nil _
   rw [e,splL_last (hp x List.mem_cons_self)];rfl
 | y::l,x,f,hf,hp=>by
   obtain ⟨f,rfl⟩: ∃k,f=k+1:=⟨f-1,by simp at hf;omega⟩
   have e:seqC sg true (x::y::l)=x++(sg++seqC sg true (y::l)):=by
    rw [seqC,if_pos rfl,seq_false]
   rw [e,app_list,app_list,splL_app (hp x List.mem_cons_self) hg,splL_seq hg l y f (by simp at hf;omega) (fun p h=>hp p (List.mem_cons_of_mem _ h))];rfl
theorem seq_len {sg:ByteArray} (hg:1≤sg.size): ∀l:List ByteArray,l.length≤(seqC sg false l).size
 | []=>Nat.zero_le _
 | x::l=>by
   have:=seq_len hg l
   rw [seqC,if_neg (by decide),app_size,app_size,List.length_cons];omega
theorem splF_seq {sg:ByteArray} (hg:1≤sg.size) {l:List ByteArray} (hl:l≠ []) (hp: ∀p∈l,Scn sg.data.toList p.data.toList):splF (seqC sg true l) sg=l:=by
 cases l with
 | nil=>exact absurd rfl hl
 | cons x l=>
   have h1:=seq_len hg l
   have h0:sg.data.toList≠ []:=fun e=>by have:=ba_len sg;rw [e] at this;simp at this;omega
   have h2:(seqC sg true (x::l)).size=x.size+(seqC sg false l).size:=by rw [seqC,if_pos rfl,app_size]
   rw [splF,splL_seq h0 l x _ (by omega) hp,List.map_map]
   exact (List.map_congr_left fun p _=>(ba_ext rfl:(bs∘fun p:ByteArray=>p.data.toList) p=id p)).trans (List.map_id _)
theorem occ_app {c:UInt8} {t:List UInt8} : ∀ {u:List UInt8} (r:List UInt8),(∀b∈u,b≠c)→occ (c::t) (u++((c::t)++r))=some u.length
 | [],r,_=>by
   have h:=pre_app (c::t) r
   rw [List.cons_append] at h
   rw [List.nil_append,List.cons_append,occ,if_pos h];rfl
 | b::u,r,hu=>by
   rw [List.cons_append,occ,if_neg (by rw [pre_ne (hu b List.mem_cons_self)];decide),occ_app r fun d hd=>hu d (List.mem_cons_of_mem _ hd)];rfl
theorem occ_no {c:UInt8} {t:List UInt8} : ∀ {u:List UInt8},(∀b∈u,b≠c)→occ (c::t) u=none
 | [],_=>rfl
 | b::u,hu=>by
   rw [occ,if_neg (by rw [pre_ne (hu b List.mem_cons_self)];decide),occ_no fun d hd=>hu d (List.mem_cons_of_mem _ hd)];rfl
theorem once_app {sg u:ByteArray} (r:ByteArray) {c:UInt8} {t:List UInt8} (h:sg.data.toList=c::t) (hu: ∀b∈u.data.toList,b≠c):onceF (u++(sg++r)) sg=(u,r):=by
 have h1:(u++(sg++r)).extract (u.size+sg.size) (u++(sg++r)).size=r:=by
  rw [←app_assoc,←app_size];exact ext_right _ _
 have h2:=occ_app (t:=t) r.data.toList hu
 rw [onceF,app_list,app_list,h,h2,ba_len]
 dsimp only
 rw [ext_left,h1]
theorem once_no {sg u:ByteArray} {c:UInt8} {t:List UInt8} (h:sg.data.toList=c::t) (hu: ∀b∈u.data.toList,b≠c):onceF u sg=(u,⟨#[]⟩):=by
 rw [onceF,h,occ_no hu]
theorem name_34 {s:ByteArray} (h:checkN s=0): ∀b∈s.data.toList,b≠34:=by
 have:=runes_bytes (q:=fun r=>decide (r≠34)) (fun r hr=>decide_eq_true (by omega)) (s:=s) fun r hr=>by
  have ho:=(name_odd h).2 r hr
  refine decide_eq_true fun e=> ?_
  have e:r=34:=by omega
  rw [e] at ho
  exact absurd ho (by decide)
 intro b hb e
 have:=of_decide_eq_true (this b hb)
 rw [e] at this
 exact this (by decide)
theorem name_b {s:ByteArray} (h:checkN s=0): ∀b∈s.data.toList,b≠34∧b≠32∧b≠58∧b≠59∧b≠47:=fun b hb=>by
 have h1:=name_sign h b hb
 have h2: ¬(b=32∨b=58∨b=59∨b=47∨b=43):=by simpa [sgOrg] using h1
 simp only [not_or] at h2
 exact ⟨name_34 h b hb,h2.1,h2.2.1,h2.2.2.1,h2.2.2.2.1⟩
theorem dg_b (n:Int): ∀b∈(dgB n).data.toList,48≤b.toNat∧b.toNat≤57:=fun b hb=>dec_digit n.toNat b hb
theorem dg_ne {n:Int} {c:UInt8} (hc:c.toNat<48∨57<c.toNat): ∀b∈(dgB n).data.toList,b≠c:=fun b hb e=>by
 have:=dg_b n b hb
 rw [e] at this;omega
theorem dg_cons (n:Int): ∃b l,(dgB n).data.toList=b::l∧48≤b.toNat∧b.toNat≤57:=by
 cases h:(dgB n).data.toList with
 | nil=>exact absurd h (dec_ne n.toNat)
 | cons b l=>exact ⟨b,l,rfl,dg_b n b (by rw [h];exact List.mem_cons_self)⟩
theorem org_back {names:List ByteArray} (hn:rollB names=true) {n:Int} (h0:0≤n) (h1:n<(names.length:Int)):((orgR names (nameT names n):Nat):Int)=n∧checkN (nameT names n)=0:=by
 have hlt:n.toNat<names.length:=by omega
 have hk:names[n.toNat]? =some (nameT names n):=by rw [nameT,List.getElem?_eq_getElem hlt];rfl
 generalize nameT names n=o at*
 have hm:=List.mem_of_getElem? hk
 refine ⟨?_,roll_name hn o hm⟩
 have hlt:ixN o names<names.length:=by
  rw [ixN]
  refine Nat.lt_of_le_of_ne (List.takeWhile_sublist _).length_le fun e=> ?_
  have h2:=(List.takeWhile_sublist (l:=names) fun y=>decide (o≠y)).eq_of_length e
  rw [←h2] at hm
  have:=mem_tw (p:=fun y=>decide (o≠y)) hm
  simp at this
 rw [orgR,if_pos hlt,roll_apart hn (ixN_at hlt) hk rfl];omega
theorem txn_parts {names:List ByteArray} (hn:rollB names=true) {t:Tx} (h:0≤t.coord∧t.coord<(names.length:Int)):splF (txnT names t) slB= [nameT names t.coord,dgB t.epoch,dgB t.seq]:=by
 have hc:=(org_back hn h.1 h.2).2
 have e:txnT names t=seqC slB true [nameT names t.coord,dgB t.epoch,dgB t.seq]:=by
  show _=nameT names t.coord++((slB++dgB t.epoch)++((slB++dgB t.seq)++⟨#[]⟩))
  rw [txnT,app_nil,app_assoc]
 rw [e]
 refine splF_seq (by decide) (by simp) fun p hp=> ?_
 refine scn_no (c:=47) (t:= []) fun b hb=> ?_
 simp only [List.mem_cons,List.not_mem_nil,or_false] at hp
 rcases hp with rfl | rfl | rfl
 ·have:=name_b hc b hb;exact ⟨this.1,this.2.2.2.2⟩
 ·exact ⟨dg_ne (.inl (by decide)) b hb,dg_ne (.inl (by decide)) b hb⟩
 ·exact ⟨dg_ne (.inl (by decide)) b hb,dg_ne (.inl (by decide)) b hb⟩
theorem txn_read {names:List ByteArray} (hn:rollB names=true) {t:Tx} (ht:mayTx t=true) (hc:t.coord<(names.length:Int)):txR names (txnT names t)=t:=by
 rw [mayTx] at ht
 simp only [Bool.and_eq_true,decide_eq_true_eq] at ht
 obtain ⟨⟨⟨⟨h1,h2⟩,h3⟩,h4⟩,h5⟩:=ht
 have h0:=rIn h1
 rw [txR,txn_parts hn ⟨h0.1,hc⟩]
 show (⟨((orgR names (nameT names t.coord):Nat):Int),numX (dgB t.epoch),numX (dgB t.seq)⟩:Tx)=t
 rw [(org_back hn h0.1 hc).1,numX_dg (by omega) (by omega),numX_dg (by omega) (by omega)]
theorem txn_b {names:List ByteArray} (hn:rollB names=true) {t:Tx} (h0:0≤t.coord∧t.coord<(names.length:Int)): ∀b∈(txnT names t).data.toList,b≠34∧b≠32:=fun b hb=>by
 have hc:=(org_back hn h0.1 h0.2).2
 rw [txnT,app_list,app_list,app_list,app_list] at hb
 have hs:slB.data.toList= [47]:=rfl
 simp only [hs,List.mem_append,List.mem_singleton] at hb
 rcases hb with hb | ((rfl | hb) | rfl) | hb
 ·have:=name_b hc b hb;exact ⟨this.1,this.2.1⟩
 ·decide
 ·exact ⟨dg_ne (.inl (by decide)) b hb,dg_ne (.inl (by decide)) b hb⟩
 ·decide
 ·exact ⟨dg_ne (.inl (by decide)) b hb,dg_ne (.inl (by decide)) b hb⟩
theorem rw_seq: ∀l:List Int,rwB l=seqC sp1 false (l.map dgB)
 | []=>rfl
 | v::l=>by rw [rwB,rw_seq l];rfl
theorem dg_scn (n:Int):Scn sp1.data.toList (dgB n).data.toList:=scn_no (c:=32) (t:= []) fun b hb=>⟨dg_ne (.inl (by decide)) b hb,dg_ne (.inl (by decide)) b hb⟩
theorem num_words {w:ByteArray} (hw: ∀b∈w.data.toList,b≠32) (v:Int) (l:List Int):onceF (w++rwB (v::l)) sp1=(w,seqC sp1 true ((v::l).map dgB))∧splF (seqC sp1 true ((v::l).map dgB)) sp1=(v::l).map dgB∧seqC sp1 true ((v::l).map dgB)≠⟨#[]⟩:=by
 refine ⟨?_,splF_seq (by decide) (by simp) fun p hp=> ?_,fun e=> ?_⟩
 ·have e:rwB (v::l)=sp1++seqC sp1 true ((v::l).map dgB):=by rw [rw_seq,List.map_cons,seq_false]
  rw [e]
  exact once_app _ (c:=32) (t:= []) rfl hw
 ·obtain ⟨n,_,rfl⟩:=List.mem_map.1 hp
  exact dg_scn n
 ·have h:(seqC sp1 true ((v::l).map dgB)).data.toList= []:=by rw [e]
  obtain ⟨b,m,hb,_⟩:=dg_cons v
  rw [List.map_cons,seqC,if_pos rfl,app_list,hb] at h
  cases h
theorem nm_x {v:Int} (h:nmW v=true):numX (dgB v)=v:=numX_dg (nIn h).1 (nIn h).2
theorem nm_map: ∀ {l:List Int},(∀v∈l,nmW v=true)→(l.map dgB).map numX=l
 | [],_=>rfl
 | v::l,h=>by rw [List.map_cons,List.map_cons,nm_x (h v List.mem_cons_self),nm_map fun u hu=>h u (List.mem_cons_of_mem _ hu)]
theorem line_told1 {t:ByteArray} (h:mayB t=true) (hz:t.size<4611686018427387904):parseE (lineE t).1=(t,0):=by
 have hl:(lineE t).1=lineB 16 t:=by rw [lineE,if_pos h]
 rw [hl];exact parse_back h hz
theorem data_told {s:ByteArray} (h:s.size≤1024):parseE (lineE (dataE s).1).1=((dataE s).1,0)∧(textN (dataE s).1).1=s:=by
 have hm:=data_may h
 have hz:=dataE_sz (s:=s)
 have hde:(dataE s).1=bytesI [100]++textB s:=by rw [dataE,if_neg (by omega)];rfl
 refine ⟨line_told1 hm (by omega), ?_⟩
 rw [hde] at hm⊢;exact text_of (.inl rfl) h hm
theorem step_read {x:Sp} (hx:SpP x) (hb:bareS x=true) {tx:ByteArray} (ht:rdX (stepT x) tx):unstF (stepT x) tx=x:=by
 obtain ⟨b1,b2,b3,b4,b5,b6⟩:=bare_eq hb
 have ha:=hx.a
 have hbb:=hx.b
 have hc:=hx.c
 have hn:=hx.n
 have hl:=hx.list
 have h1024:x.text.size≤1024:=hx.text
 have h9:=hx.do_
 obtain ⟨d,a,b,c,n,te,li⟩:=x
 simp only at ha hbb hc hn hl h1024 h9 b5 b6
 have:d=1∨d=2∨d=3∨d=4∨d=5∨d=6∨d=7∨d=8∨d=9:=by omega
 rcases this with rfl | rfl | rfl | rfl | rfl | rfl | rfl | rfl | rfl
 ·obtain rfl:(0:Int)=a:=b1
  obtain rfl:(0:Int)=b:=b2
  obtain rfl:(0:Int)=c:=b3
  obtain rfl:=b5.resolve_left (by decide)
  obtain rfl:=b6.resolve_left (by decide)
  have e:stepT ⟨1,0,0,0,n,⟨#[]⟩,[]⟩=wSeen++rwB [n]:=app_nil _
  obtain ⟨e1,e2,_⟩:=num_words (w:=wSeen) (by decide) n []
  rw [e,unstF,e1]
  dsimp only
  rw [e2,if_pos rfl]
  show (⟨1,0,0,0,numX (dgB n),_,_⟩:Sp)=_
  rw [nm_x hn]
 ·obtain rfl:(0:Int)=a:=b1
  obtain rfl:(0:Int)=b:=b2
  obtain rfl:(0:Int)=c:=b3
  obtain rfl:(0:Int)=n:=b4
  obtain rfl:=b6.resolve_left (by decide)
  obtain ⟨d1,d2⟩:=data_told h1024
  have e:stepT ⟨2,0,0,0,0,te,[]⟩=wData++(sp1++(lineE (dataE te).1).1):=congrArg (fun z=>z++_) (app_nil wData)
  have e1:=once_app (sg:=sp1) (u:=wData) (lineE (dataE te).1).1 (c:=32) (t:= []) rfl (by decide)
  obtain ⟨t,h1,h2⟩:=ht
  rw [e,e1] at h1
  have h1:t=(parseE (lineE (dataE te).1).1).1:=h1 (by show (parseE (lineE (dataE te).1).1).2=0;rw [d1])
  rw [d1] at h1
  rw [e,unstF,e1]
  dsimp only
  rw [if_neg (by decide),if_pos rfl,h2,h1,d2]
 ·obtain rfl:(0:Int)=b:=b2
  obtain rfl:(0:Int)=c:=b3
  obtain rfl:=b5.resolve_left (by decide)
  obtain rfl:=b6.resolve_left (by decide)
  have e:stepT ⟨3,a,0,0,n,⟨#[]⟩,[]⟩=wPart++rwB [a,n]:=app_nil _
  obtain ⟨e1,e2,_⟩:=num_words (w:=wPart) (by decide) a [n]
  rw [e,unstF,e1]
  dsimp only
  rw [e2,if_neg (by decide),if_neg (by decide),if_pos rfl]
  show (⟨3,numX (dgB a),0,0,numX (dgB n),_,_⟩:Sp)=_
  rw [nm_x ha,nm_x hn]
 ·obtain rfl:(0:Int)=b:=b2
  obtain rfl:(0:Int)=c:=b3
  obtain rfl:(0:Int)=n:=b4
  obtain rfl:=b5.resolve_left (by decide)
  obtain rfl:=b6.resolve_left (by decide)
  have e:stepT ⟨4,a,0,0,0,⟨#[]⟩,[]⟩=wNonce++rwB [a]:=app_nil _
  obtain ⟨e1,e2,_⟩:=num_words (w:=wNonce) (by decide) a []
  rw [e,unstF,e1]
  dsimp only
  rw [e2,if_neg (by decide),if_neg (by decide),if_neg (by decide),if_pos rfl]
  show (⟨4,numX (dgB a),0,0,0,_,_⟩:Sp)=_
  rw [nm_x ha]
 ·obtain rfl:(0:Int)=c:=b3
  obtain rfl:(0:Int)=n:=b4
  obtain rfl:=b5.resolve_left (by decide)
  obtain rfl:=b6.resolve_left (by decide)
  have e:stepT ⟨5,a,b,0,0,⟨#[]⟩,[]⟩=wBody++rwB [a,b]:=app_nil _
  obtain ⟨e1,e2,_⟩:=num_words (w:=wBody) (by decide) a [b]
  rw [e,unstF,e1]
  dsimp only
  rw [e2,if_neg (by decide),if_neg (by decide),if_neg (by decide),if_neg (by decide),if_pos rfl]
  show (⟨5,numX (dgB a),numX (dgB b),0,0,_,_⟩:Sp)=_
  rw [nm_x ha,nm_x hbb]
 ·obtain rfl:(0:Int)=a:=b1
  obtain rfl:(0:Int)=b:=b2
  obtain rfl:(0:Int)=c:=b3
  obtain rfl:(0:Int)=n:=b4
  obtain rfl:=b5.resolve_left (by decide)
  have e:stepT ⟨6,0,0,0,0,⟨#[]⟩,li⟩=wRow++rwB li:=congrArg (fun z=>z++_) (app_nil wRow)
  cases li with
  | nil=>
    have e1:=once_no (sg:=sp1) (u:=wRow++rwB []) (c:=32) (t:= []) rfl (by decide)
    have e2:wRow++rwB []=wRow:=app_nil _
    rw [e,unstF,e1,e2]
    dsimp only
    rw [if_neg (by decide),if_neg (by decide),if_neg (by decide),if_neg (by decide),if_neg (by decide),if_neg (by decide),if_neg (by decide),if_neg (by decide),if_pos rfl]
  | cons v l=>
    obtain ⟨e1,e2,e3⟩:=num_words (w:=wRow) (by decide) v l
    rw [e,unstF,e1]
    dsimp only
    rw [e2,if_neg (by decide),if_neg (by decide),if_neg (by decide),if_neg (by decide),if_neg (by decide),if_neg (by decide),if_neg (by decide),if_neg (by decide),if_neg e3,nm_map hl]
 ·obtain rfl:(0:Int)=b:=b2
  obtain rfl:(0:Int)=c:=b3
  obtain rfl:(0:Int)=n:=b4
  obtain rfl:=b5.resolve_left (by decide)
  obtain rfl:=b6.resolve_left (by decide)
  have e:stepT ⟨7,a,0,0,0,⟨#[]⟩,[]⟩=wHash++rwB [a]:=app_nil _
  obtain ⟨e1,e2,_⟩:=num_words (w:=wHash) (by decide) a []
  rw [e,unstF,e1]
  dsimp only
  rw [e2,if_neg (by decide),if_neg (by decide),if_neg (by decide),if_neg (by decide),if_neg (by decide),if_pos rfl]
  show (⟨7,numX (dgB a),0,0,0,_,_⟩:Sp)=_
  rw [nm_x ha]
 ·obtain rfl:(0:Int)=c:=b3
  obtain rfl:(0:Int)=n:=b4
  obtain rfl:=b5.resolve_left (by decide)
  obtain rfl:=b6.resolve_left (by decide)
  have e:stepT ⟨8,a,b,0,0,⟨#[]⟩,[]⟩=wMac++rwB [a,b]:=app_nil _
  obtain ⟨e1,e2,_⟩:=num_words (w:=wMac) (by decide) a [b]
  rw [e,unstF,e1]
  dsimp only
  rw [e2,if_neg (by decide),if_neg (by decide),if_neg (by decide),if_neg (by decide),if_neg (by decide),if_neg (by decide),if_pos rfl]
  show (⟨8,numX (dgB a),numX (dgB b),0,0,_,_⟩:Sp)=_
  rw [nm_x ha,nm_x hbb]
 ·obtain rfl:(0:Int)=n:=b4
  obtain rfl:=b5.resolve_left (by decide)
  obtain rfl:=b6.resolve_left (by decide)
  have e:stepT ⟨9,a,b,c,0,⟨#[]⟩,[]⟩=wSeal++rwB [a,b,c]:=app_nil _
  obtain ⟨e1,e2,_⟩:=num_words (w:=wSeal) (by decide) a [b,c]
  rw [e,unstF,e1]
  dsimp only
  rw [e2,if_neg (by decide),if_neg (by decide),if_neg (by decide),if_neg (by decide),if_neg (by decide),if_neg (by decide),if_neg (by decide),if_pos rfl]
  show (⟨9,numX (dgB a),numX (dgB b),numX (dgB c),0,_,_⟩:Sp)=_
  rw [nm_x ha,nm_x hbb,nm_x hc]
theorem scn_sp {sg:List UInt8} (h:SgT sg) {v:List UInt8} (hv:Scn sg v) (hh: ∃b l,v=b::l∧b≠43):Scn sg (32::v):=fun r=>by
 obtain ⟨b,l,rfl,hb⟩:=hh
 have h2:hasPrefix (32::b::(l++r)) sg=false:=by
  rcases h with rfl | rfl
  ·rfl
  ·show List.isPrefixOf [32,43,32] (32::b::(l++r))=false
   rw [List.isPrefixOf,List.isPrefixOf];simp [Ne.symm hb]
 have h3:=hv r
 rw [List.cons_append] at h3
 rw [List.cons_append,List.cons_append,scanF,h2,if_pos (by decide),if_neg (by decide),h3]
 simp only [List.length_cons];omega
theorem dg_sp {sg:List UInt8} (h:SgT sg) (n:Int):Scn sg (sp1++dgB n).data.toList:=by
 rw [app_list]
 obtain ⟨b,l,h1,h2⟩:=dg_cons n
 exact scn_sp h (scn_qu h fun c hc=>⟨dg_ne (.inl (by decide)) c hc,dg_ne (.inr (by decide)) c hc,dg_ne (.inl (by decide)) c hc⟩) ⟨b,l,h1,by rintro rfl;exact absurd h2.1 (by decide)⟩
theorem rwB_scn {sg:List UInt8} (h:SgT sg): ∀l:List Int,Scn sg (rwB l).data.toList
 | []=>fun r=>(Nat.zero_add _).symm
 | v::l=>by rw [rwB,app_list];exact (dg_sp h v).app (rwB_scn h l)
theorem fsB_scn {sg:List UInt8} (h:SgT sg) (x:Sp): ∀l:List Nat,Scn sg (fsB x l).data.toList
 | []=>fun r=>(Nat.zero_add _).symm
 | v::l=>by rw [fsB,app_list];exact (dg_sp h _).app (fsB_scn h x l)
theorem kW_qu (d:Int): ∀b∈(kW d).data.toList,b≠34∧b≠59∧b≠32:=by
 unfold kW
 repeat' split
 all_goals decide
theorem line_sp {sg:List UInt8} (h:SgT sg) {t:ByteArray} (ht:mayB t=true) (hz:t.size<4611686018427387904):Scn sg (sp1++(lineE t).1).data.toList:=by
 have hl:(lineE t).1=lineB 16 t:=by rw [lineE,if_pos ht]
 obtain ⟨hT,hz2⟩:=(mayB_iff hz).1 ht
 obtain ⟨h1,h2⟩:=line_scn h 16 (Nat.le_refl _) t hT hz2
 rw [hl,app_list]
 exact scn_sp h h1 h2
theorem step_scn {x:Sp} (h:SpP x):Scn plusB.data.toList (stepT x).data.toList:=by
 have hp:SgT plusB.data.toList:= .inr rfl
 rw [stepT,app_list,app_list]
 refine ((scn_qu hp (kW_qu _)).app (fsB_scn hp x _)).app ?_
 unfold tailT
 split
 ·have:=dataE_sz (s:=x.text)
  exact line_sp hp (data_may h.text) (by omega)
 split
 ·exact rwB_scn hp _
 ·exact fun r=>(Nat.zero_add _).symm
theorem stR_read: ∀ {l L:List Sp},(∀x∈l,SpP x∧bareS x=true)→stR (l.map stepT) L→L=l
 | [],[],_,_=>rfl
 | [],_::_,_,h=>h.elim
 | _::_,[],_,h=>h.elim
 | x::l,y::L,hp,h=>by
   obtain ⟨⟨tx,h1,h2⟩,h3⟩:=h
   have hx:=hp x List.mem_cons_self
   rw [h2,step_read hx.1 hx.2 h1,stR_read (fun z hz=>hp z (List.mem_cons_of_mem _ hz)) h3]
theorem steps_read {l L:List Sp} (hp: ∀x∈l,SpP x∧bareS x=true) (h:ussR (stepsT l) L):L=l:=by
 unfold ussR at h
 by_cases h0:stepsT l=wNothing
 ·rw [if_pos h0] at h
  have h1:=stepsV_some (l:=l) fun x hx=>(hp x hx).1
  rw [if_pos (fun x hx=>(hp x hx).2),h0] at h1
  have h2:=steps_back (fun x hx=>(hp x hx).1) h1
  have h3:stepsO wNothing=some ([],⟨#[]⟩):=if_pos rfl
  rw [h3] at h2
  cases h2
  exact h
 ·rw [if_neg h0] at h
  have hl:l≠ []:=fun e=>h0 (by rw [e];rfl)
  have e:stepsT l=seqC plusB true (l.map stepT):=if_neg hl
  rw [e,splF_seq (by decide) (by simpa using hl)] at h
  ·exact stR_read hp h
  ·intro p hq
   obtain ⟨x,hx,rfl⟩:=List.mem_map.1 hq
   exact step_scn (hp x hx).1
def g1T (names:List ByteArray) (m:Mb):ByteArray:=nameT names m.org++(sp1++(lineE m.digest).1)
theorem gives_seq (names:List ByteArray): ∀l:List Mb,givesT names false l=seqC semB false (l.map (g1T names))
 | []=>rfl
 | m::l=>by
   rw [givesT,gives_seq names l,giveT,if_neg (by decide),app_assoc,app_assoc]
   show _=(semB++g1T names m)++_
   rw [g1T];simp only [app_assoc]
theorem gives_seq1 (names:List ByteArray) (m:Mb) (l:List Mb):givesT names true (m::l)=colB++seqC semB true ((m::l).map (g1T names)):=by
 rw [givesT,gives_seq names l,giveT,if_pos rfl]
 show _=colB++(g1T names m++_)
 rw [g1T];simp only [app_assoc]
def GvR (names:List ByteArray) (m:Mb):Prop:=GvP m∧m.org<(names.length:Int)∧m.digest.size<1000000
theorem g1_read {names:List ByteArray} (hn:rollB names=true) {m x:Mb} (hm:GvR names m) (h:gv1R names (g1T names m) x):x=m:=by
 obtain ⟨hg,ho,hz⟩:=hm
 obtain ⟨q1,q2⟩:=org_back hn (rIn hg.1).1 ho
 have hmay:mayB m.digest=true:=by rw [mayB,decide_eq_true_eq];exact hg.2
 have e:=once_app (sg:=sp1) (u:=nameT names m.org) (lineE m.digest).1 (c:=32) (t:= []) rfl fun b hb=>(name_b q2 b hb).2.1
 obtain ⟨t,h1,rfl⟩:=h
 unfold rdL at h1
 rw [g1T,e] at h1⊢
 dsimp only at h1⊢
 have ht:=line_told1 hmay (by omega)
 rw [ht] at h1
 rw [h1 rfl,q1]
theorem g1_scn {names:List ByteArray} (hn:rollB names=true) {m:Mb} (hm:GvR names m):Scn semB.data.toList (g1T names m).data.toList:=by
 obtain ⟨hg,ho,hz⟩:=hm
 obtain ⟨q1,q2⟩:=org_back hn (rIn hg.1).1 ho
 have hmay:mayB m.digest=true:=by rw [mayB,decide_eq_true_eq];exact hg.2
 have hp:SgT semB.data.toList:= .inl rfl
 rw [g1T,app_list]
 exact (scn_qu hp fun b hb=>by have:=name_b q2 b hb;exact ⟨this.1,this.2.2.2.1,this.2.1⟩).app (line_sp hp hmay (by omega))
theorem gvs_read {names:List ByteArray} (hn:rollB names=true): ∀ {l L:List Mb},(∀m∈l,GvR names m)→gvsR names (l.map (g1T names)) L→L=l
 | [],[],_,_=>rfl
 | [],_::_,_,h=>h.elim
 | _::_,[],_,h=>h.elim
 | x::l,y::L,hp,h=>by
   rw [g1_read hn (hp x List.mem_cons_self) h.1,gvs_read hn (fun z hz=>hp z (List.mem_cons_of_mem _ hz)) h.2]
theorem gv_read {names:List ByteArray} (hn:rollB names=true) {m:Mb} {l L:List Mb} (hp: ∀x∈m::l,GvR names x) (h:gvR names (seqC semB true ((m::l).map (g1T names))) L):L=m::l:=by
 unfold gvR at h
 rw [if_neg,splF_seq (by decide) (by simp)] at h
 ·exact gvs_read hn hp h
 ·intro p hq
  obtain ⟨x,hx,rfl⟩:=List.mem_map.1 hq
  exact g1_scn hn (hp x hx)
 ·intro e
  have h1:=congrArg ByteArray.size e
  rw [List.map_cons,seqC,if_pos rfl,app_size,g1T,app_size,app_size] at h1
  have h2:sp1.size=1:=rfl
  have h3:(⟨#[]⟩:ByteArray).size=0:=rfl
  omega
theorem act_head {names:List ByteArray} (hn:rollB names=true) {o:Int} (h0:0≤o∧o<(names.length:Int)) {w r:ByteArray} (hw: ∀b∈w.data.toList,b≠32) {b:Aa} (h:actR names (nameT names o++(sp1++(w++(sp1++r)))) b):vbR names o w r b:=by
 obtain ⟨q1,q2⟩:=org_back hn h0.1 h0.2
 have e1:=once_app (sg:=sp1) (u:=nameT names o) (w++(sp1++r)) (c:=32) (t:= []) rfl fun b hb=>(name_b q2 b hb).2.1
 have e2:=once_app (sg:=sp1) (u:=w) r (c:=32) (t:= []) rfl hw
 unfold actR at h
 rw [e1] at h
 dsimp only at h
 rw [e2,q1] at h
 exact h
theorem act_head0 {names:List ByteArray} (hn:rollB names=true) {o:Int} (h0:0≤o∧o<(names.length:Int)) {w:ByteArray} (hw: ∀b∈w.data.toList,b≠32) {b:Aa} (h:actR names (nameT names o++(sp1++w)) b):vbR names o w ⟨#[]⟩ b:=by
 obtain ⟨q1,q2⟩:=org_back hn h0.1 h0.2
 have e1:=once_app (sg:=sp1) (u:=nameT names o) w (c:=32) (t:= []) rfl fun b hb=>(name_b q2 b hb).2.1
 have e2:=once_no (sg:=sp1) (u:=w) (c:=32) (t:= []) rfl hw
 unfold actR at h
 rw [e1] at h
 dsimp only at h
 rw [e2,q1] at h
 exact h
theorem dg_word (n:Int) {w:ByteArray} {b:UInt8} {l:List UInt8} (h:w.data.toList=b::l) (hb:b.toNat<48∨57<b.toNat):dgB n≠w:=fun e=>by
 obtain ⟨c,m,h1,h2⟩:=dg_cons n
 rw [e,h] at h1
 cases h1
 omega
def wN2:ByteArray:=⟨#[110,111]⟩
def wT2:ByteArray:=⟨#[116,111]⟩
def wF3:ByteArray:=⟨#[102,111,114]⟩
def wP4:ByteArray:=⟨#[112,111,115,116]⟩
def wC5:ByteArray:=⟨#[99,111,109,101,115]⟩
def wB6:ByteArray:=⟨#[98,101,104,105,110,100]⟩
def wK3:ByteArray:=⟨#[97,110,100]⟩
def wK5:ByteArray:=⟨#[107,101,101,112,115]⟩
theorem seq2 (a b:ByteArray):a++(sp1++b)=seqC sp1 true [a,b]:=by
 show _=a++((sp1++b)++⟨#[]⟩)
 rw [app_nil]
theorem seq3 (a b c:ByteArray):a++(sp1++(b++(sp1++c)))=seqC sp1 true [a,b,c]:=by
 show _=a++((sp1++b)++((sp1++c)++⟨#[]⟩))
 rw [app_nil,app_assoc]
theorem spl2 {a b:ByteArray} (ha: ∀x∈a.data.toList,x≠34∧x≠32) (hb: ∀x∈b.data.toList,x≠34∧x≠32):splF (a++(sp1++b)) sp1= [a,b]:=by
 rw [seq2]
 refine splF_seq (by decide) (by simp) fun p hp=> ?_
 simp only [List.mem_cons,List.not_mem_nil,or_false] at hp
 rcases hp with rfl | rfl
 ·exact scn_no (c:=32) (t:= []) ha
 ·exact scn_no (c:=32) (t:= []) hb
theorem spl3 {a b c:ByteArray} (ha: ∀x∈a.data.toList,x≠34∧x≠32) (hb: ∀x∈b.data.toList,x≠34∧x≠32) (hc: ∀x∈c.data.toList,x≠34∧x≠32):splF (a++(sp1++(b++(sp1++c)))) sp1= [a,b,c]:=by
 rw [seq3]
 refine splF_seq (by decide) (by simp) fun p hp=> ?_
 simp only [List.mem_cons,List.not_mem_nil,or_false] at hp
 rcases hp with rfl | rfl | rfl
 ·exact scn_no (c:=32) (t:= []) ha
 ·exact scn_no (c:=32) (t:= []) hb
 ·exact scn_no (c:=32) (t:= []) hc
theorem dg_q (n:Int): ∀b∈(dgB n).data.toList,b≠34∧b≠32:=fun b hb=>⟨dg_ne (.inl (by decide)) b hb,dg_ne (.inl (by decide)) b hb⟩
theorem says_read {names:List ByteArray} (hn:rollB names=true) {o:Int} {t:Tx} {y:Bool} (ht:mayTx t=true) (hc:t.coord<(names.length:Int)) {w:ByteArray} (hw:w=if y=true then wY3 else wN2) {b:Aa} (h:vbR names o wSays (w++(sp1++(wT2++(sp1++txnT names t)))) b):b=⟨2,o,0,0,[],t,y,[]⟩:=by
 have h1:splF (w++(sp1++(wT2++(sp1++txnT names t)))) sp1= [w,wT2,txnT names t]:=spl3 (by cases y <;> subst hw <;> decide) (by decide) (txn_b hn ⟨(txIn ht).1,hc⟩)
 have h2:(decide (w=wY3):Bool)=y:=by cases y <;> subst hw <;> decide
 rw [vbR,if_neg (by decide),if_pos rfl,h1] at h
 rw [h]
 show (⟨2,o,0,0,[],txR names (txnT names t),decide (w=wY3),[]⟩:Aa)=_
 rw [txn_read hn ht hc,h2]
theorem beg_read {names:List ByteArray} (hn:rollB names=true) {o au:Int} {g:List Mb} (h0:0≤au∧au<(names.length:Int)) (hg: ∀m∈g,GvR names m) {b:Aa} (h:vbR names o wBegins (wF3++(sp1++(nameT names au++givesT names true g))) b):b=⟨1,o,au,0,g,tz,false,[]⟩:=by
 obtain ⟨q1,q2⟩:=org_back hn h0.1 h0.2
 have hne: ¬wF3++(sp1++(nameT names au++givesT names true g))=wA4:=fun e=>by
  have h:=congrArg (fun s:ByteArray=>s.data.toList) e
  rw [app_list] at h
  simp [wF3,wA4] at h
 have h58: ∀b∈(wF3++(sp1++nameT names au)).data.toList,b≠58:=fun b hb=>by
  rw [app_list,app_list,List.mem_append,List.mem_append] at hb
  rcases hb with hb | hb | hb
  ·revert b;decide
  ·revert b;decide
  ·exact (name_b q2 b hb).2.2.1
 have hh:=once_app (sg:=sp1) (u:=wF3) (nameT names au) (c:=32) (t:= []) rfl (by decide)
 rw [vbR,if_pos rfl,if_neg hne] at h
 obtain ⟨gv,h1,rfl⟩:=h
 cases g with
 | nil=>
   have e:wF3++(sp1++(nameT names au++givesT names true []))=wF3++(sp1++nameT names au):=by rw [givesT,app_nil]
   rw [e,once_no (sg:=colB) (c:=58) (t:= [32]) rfl h58] at h1⊢
   dsimp only at h1⊢
   unfold gvR at h1
   rw [if_pos rfl] at h1
   rw [hh,h1,q1]
 | cons m l=>
   have e:wF3++(sp1++(nameT names au++givesT names true (m::l)))=(wF3++(sp1++nameT names au))++(colB++seqC semB true ((m::l).map (g1T names))):=by rw [gives_seq1];simp only [app_assoc]
   rw [e,once_app (sg:=colB) _ (c:=58) (t:= [32]) rfl h58] at h1⊢
   dsimp only at h1⊢
   rw [hh,gv_read hn hg h1,q1]
theorem act_read {names:List ByteArray} (hn:rollB names=true) {a b:Aa} (ha:AcP a) (hl:MayL names.length a) (hd: ∀m∈a.gives,m.digest.size<1000000) (h:actR names (lineT names a) b):b=a:=by
 have ho:=hl.org
 unfold lineT at h
 cases ha with
 | deliver n h1=>
   rw [if_pos rfl] at h
   have e:(wPost++dgB n)++wComes=wP4++(sp1++(dgB n++(sp1++wC5))):=by
    rw [show wPost=wP4++sp1 by decide,show wComes=sp1++wC5 by decide];simp only [app_assoc]
   have e1:=once_app (sg:=sp1) (u:=wP4) (dgB n++(sp1++wC5)) (c:=32) (t:= []) rfl (by decide)
   have e2:=once_app (sg:=sp1) (u:=dgB n) wC5 (c:=32) (t:= []) rfl (dg_ne (.inl (by decide)))
   have hd: ∀ {w:ByteArray} {b:UInt8} {l:List UInt8},w.data.toList=b::l→57<b.toNat→ ¬dgB n=w:=fun h hb=>dg_word n h (.inr hb)
   unfold actR at h
   dsimp only at h
   rw [e,e1] at h
   dsimp only at h
   rw [e2,vbR,if_neg (hd (w:=wBegins) rfl (by decide)),if_neg (hd (w:=wSays) rfl (by decide)),if_neg (hd (w:=wTicks) rfl (by decide)),if_neg (hd (w:=wGets) rfl (by decide)),if_neg (hd (w:=wStops) rfl (by decide)),if_neg (hd (w:=wCrashes) rfl (by decide)),if_neg (hd (w:=wShows) rfl (by decide)),if_neg (hd (w:=wJudges) rfl (by decide)),nm_x h1] at h
   exact h
 | begin_ o au g h1 h2 h3 h4=>
   have h0:0≤o∧o<(names.length:Int):=⟨(rIn h1).1,ho (by simp)⟩
   have h:actR names (nameT names o++((vBegins++nameT names au)++givesT names true g)) b:=h
   have e:vBegins=sp1++(wBegins++(sp1++(wF3++sp1))):=by decide
   rw [e] at h
   simp only [app_assoc] at h
   exact beg_read hn ⟨(rIn h2).1,hl.aud rfl⟩ (fun m hm=>⟨h4 m hm,hl.gives m hm,hd m hm⟩) (act_head hn h0 (by decide) h)
 | submit o tx y h1 h2=>
   have h0:0≤o∧o<(names.length:Int):=⟨(rIn h1).1,ho (by simp)⟩
   have hc:tx.coord<(names.length:Int):=hl.tx (.inl rfl)
   have h:actR names (nameT names o++((if y=true then vYes else vNo)++txnT names tx)) b:=h
   have e:(if y=true then vYes else vNo)=sp1++(wSays++(sp1++((if y=true then wY3 else wN2)++(sp1++(wT2++sp1))))):=by cases y <;> decide
   rw [e] at h
   simp only [app_assoc] at h
   exact says_read hn h2 hc rfl (act_head hn h0 (by decide) h)
 | tick o h1=>
   have h0:0≤o∧o<(names.length:Int):=⟨(rIn h1).1,ho (by simp)⟩
   have h:actR names (nameT names o++vTicks) b:=h
   rw [show vTicks=sp1++wTicks by decide] at h
   have h:=act_head0 hn h0 (by decide) h
   rwa [vbR,if_neg (by decide),if_neg (by decide),if_pos rfl] at h
 | restart o h1=>
   have h0:0≤o∧o<(names.length:Int):=⟨(rIn h1).1,ho (by simp)⟩
   have h:actR names (nameT names o++vAnew) b:=h
   rw [show vAnew=sp1++(wBegins++(sp1++wA4)) by decide] at h
   have h:=act_head hn h0 (by decide) h
   rwa [vbR,if_pos rfl,if_pos rfl] at h
 | arm o n h1 h2=>
   have h0:0≤o∧o<(names.length:Int):=⟨(rIn h1).1,ho (by simp)⟩
   have h:actR names (nameT names o++(vStops++dgB n)) b:=h
   rw [show vStops=sp1++(wStops++(sp1++(wB6++sp1))) by decide] at h
   simp only [app_assoc] at h
   have h:=act_head hn h0 (by decide) h
   rw [vbR,if_neg (by decide),if_neg (by decide),if_neg (by decide),if_neg (by decide),if_pos rfl,spl2 (by decide) (dg_q n)] at h
   rw [h]
   show (⟨6,o,0,numX (dgB n),[],tz,false,[]⟩:Aa)=_
   rw [nm_x h2]
 | crash o n h1 h2=>
   have h0:0≤o∧o<(names.length:Int):=⟨(rIn h1).1,ho (by simp)⟩
   have h:actR names (nameT names o++(vCrash++dgB n)) b:=h
   rw [show vCrash=sp1++(wCrashes++(sp1++(wK3++(sp1++(wK5++sp1))))) by decide] at h
   simp only [app_assoc] at h
   have h:=act_head hn h0 (by decide) h
   rw [vbR,if_neg (by decide),if_neg (by decide),if_neg (by decide),if_neg (by decide),if_neg (by decide),if_pos rfl,spl3 (by decide) (by decide) (dg_q n)] at h
   rw [h]
   show (⟨7,o,0,numX (dgB n),[],tz,false,[]⟩:Aa)=_
   rw [nm_x h2]
 | inject o l h1 h2 h3=>
   have h0:0≤o∧o<(names.length:Int):=⟨(rIn h1).1,ho (by simp)⟩
   have h:actR names (nameT names o++(vGets++stepsT l)) b:=h
   rw [show vGets=sp1++(wGets++sp1) by decide] at h
   simp only [app_assoc] at h
   have h:=act_head hn h0 (by decide) h
   rw [vbR,if_neg (by decide),if_neg (by decide),if_neg (by decide),if_pos rfl] at h
   obtain ⟨st,h5,rfl⟩:=h
   rw [steps_read (fun x hx=>⟨h3 x hx,hl.steps x hx⟩) h5]
 | present o l h1 h2 h3=>
   have h0:0≤o∧o<(names.length:Int):=⟨(rIn h1).1,ho (by simp)⟩
   have h:actR names (nameT names o++(vJudges++stepsT l)) b:=h
   rw [show vJudges=sp1++(wJudges++sp1) by decide] at h
   simp only [app_assoc] at h
   have h:=act_head hn h0 (by decide) h
   rw [vbR,if_neg (by decide),if_neg (by decide),if_neg (by decide),if_neg (by decide),if_neg (by decide),if_neg (by decide),if_neg (by decide),if_pos rfl] at h
   obtain ⟨st,h5,rfl⟩:=h
   rw [steps_read (fun x hx=>⟨h3 x hx,hl.steps x hx⟩) h5]
 | exprt o tx h1 h2=>
   have h0:0≤o∧o<(names.length:Int):=⟨(rIn h1).1,ho (by simp)⟩
   have hc:tx.coord<(names.length:Int):=hl.tx (.inr rfl)
   have h:actR names (nameT names o++(vShows++txnT names tx)) b:=h
   rw [show vShows=sp1++(wShows++sp1) by decide] at h
   simp only [app_assoc] at h
   have h:=act_head hn h0 (by decide) h
   rw [vbR,if_neg (by decide),if_neg (by decide),if_neg (by decide),if_neg (by decide),if_neg (by decide),if_neg (by decide),if_pos rfl,txn_read hn h2 hc] at h
   exact h
theorem more_split: ∀(k:Nat) (s:ByteArray) (x:List Sp×ByteArray),moreO k s=some x→ ∃u,stepsW false x.1=some u∧s=u++x.2
 | 0,s,x,h=>by cases h;exact ⟨⟨#[]⟩,rfl,(nil_app _).symm⟩
 | k+1,s,x,h=>by
   rw [moreO] at h
   split at h
   ·rename_i hp
    obtain ⟨y,hy,h⟩:=Option.bind_eq_some_iff.1 h
    obtain ⟨z,hz,h⟩:=Option.bind_eq_some_iff.1 h
    cases h
    obtain ⟨a,h1,h2⟩:=est_split hy
    obtain ⟨b,h3,h4⟩:=more_split k _ z hz
    refine ⟨(plusB++a)++b, ?_, ?_⟩
    ·show stepsW false (y.1::z.1)=_
     rw [stepsW,h1,Option.bind_some,h3,Option.bind_some];rfl
    ·show s=_++z.2
     rw [app_assoc,app_assoc,←h4,←h2];exact pre_split hp
   ·cases h;exact ⟨⟨#[]⟩,rfl,(nil_app _).symm⟩
theorem steps_split {s:ByteArray} {x:List Sp×ByteArray} (h:stepsO s=some x): ∃u,stepsV x.1=some u∧s=u++x.2:=by
 unfold stepsO at h
 split at h
 ·rename_i hn
  cases h
  exact ⟨wNothing,rfl,by rw [hn,app_nil]⟩
 ·obtain ⟨y,hy,h⟩:=Option.bind_eq_some_iff.1 h
  obtain ⟨z,hz,h⟩:=Option.bind_eq_some_iff.1 h
  cases h
  obtain ⟨a,h1,h2⟩:=est_split hy
  obtain ⟨b,h3,h4⟩:=more_split _ _ z hz
  refine ⟨a++b, ?_, ?_⟩
  ·show stepsV (y.1::z.1)=_
   rw [stepsV,if_neg (by simp),stepsW,h1,Option.bind_some,h3,Option.bind_some];rfl
  ·show s=_++z.2
   rw [app_assoc,←h4,←h2]
theorem gv_split {names:List ByteArray} : ∀(k:Nat) (f:Bool) (s:ByteArray) (x:List Mb×ByteArray),gvO names k (if f then colB else semB) s=some x→ ∃u,givesV names f x.1=some u∧s=u++x.2
 | 0,f,s,x,h=>by cases h;exact ⟨⟨#[]⟩,rfl,(nil_app _).symm⟩
 | k+1,f,s,x,h=>by
   rw [gvO] at h
   split at h
   ·cases h;exact ⟨⟨#[]⟩,rfl,(nil_app _).symm⟩
   obtain ⟨a,ha,h⟩:=Option.bind_eq_some_iff.1 h
   obtain ⟨b,hb,h⟩:=Option.bind_eq_some_iff.1 h
   obtain ⟨c,hc,h⟩:=Option.bind_eq_some_iff.1 h
   obtain ⟨d,hd,h⟩:=Option.bind_eq_some_iff.1 h
   obtain ⟨e,he,h⟩:=Option.bind_eq_some_iff.1 h
   cases h
   have h1:=hear_split ha
   obtain ⟨o,h2,h3⟩:=org_split hb
   have h4:=hear_split hc
   obtain ⟨h5,_,h6⟩:=term_split hd
   obtain ⟨v,h7,h8⟩:=gv_split k false _ e he
   refine ⟨(((if f=true then colB else semB)++o)++(sp1++(lineE d.1).1))++v, ?_, ?_⟩
   ·show givesV names f (⟨(b.1:Int),d.1⟩::e.1)=_
    rw [givesV]
    show (orgV names ((b.1:Int)).toNat).bind _=_
    rw [Int.toNat_natCast,orgV,h2,Option.bind_some]
    show (termV d.1).bind _=_
    rw [h5,Option.bind_some,h7,Option.bind_some]
   ·show s=_++e.2
    simp only [app_assoc]
    rw [←h8,←h6,←h4,←h3];exact h1
theorem beg_split {names:List ByteArray} {o:Int} {s:ByteArray} {x:Aa×ByteArray} (h:begO names o s=some x): ∃u,verbV names x.1=some u∧sp1++(wBegins++s)=u++x.2∧x.1.do_≠4∧x.1.org=o:=by
 unfold begO at h
 split at h
 ·rename_i hs
  cases h
  exact ⟨vAnew,rfl,by rw [hs];rfl,by show (8:Int)≠4;decide,rfl⟩
 ·obtain ⟨a,ha,h⟩:=Option.bind_eq_some_iff.1 h
  obtain ⟨b,hb,h⟩:=Option.bind_eq_some_iff.1 h
  obtain ⟨c,hc,h⟩:=Option.bind_eq_some_iff.1 h
  cases h
  have h1:=hear_split ha
  obtain ⟨p,h2,h3⟩:=org_split hb
  obtain ⟨v,h4,h5⟩:=gv_split _ true _ c hc
  refine ⟨(vBegins++p)++v, ?_, ?_,by show (1:Int)≠4;decide,rfl⟩
  ·show begV names ⟨1,o,(b.1:Int),0,c.1,tz,false,[]⟩=_
   rw [begV]
   show (orgV names ((b.1:Int)).toNat).bind _=_
   rw [Int.toNat_natCast,orgV,h2,Option.bind_some]
   show aft _ (givesV names true c.1)=_
   rw [h4];rfl
  ·show _=_++c.2
   rw [show vBegins=sp1++(wBegins++wFor)from rfl]
   simp only [app_assoc]
   rw [←h5,←h3,←h1]
theorem says_split {names:List ByteArray} {o:Int} {s:ByteArray} {x:Aa×ByteArray} (h:saysO names o s=some x): ∃u,verbV names x.1=some u∧sp1++(wSays++s)=u++x.2∧x.1.do_≠4∧x.1.org=o:=by
 unfold saysO at h
 obtain ⟨a,ha,h⟩:=Option.bind_eq_some_iff.1 h
 obtain ⟨b,hb,h⟩:=Option.bind_eq_some_iff.1 h
 obtain ⟨c,hc,h⟩:=Option.bind_eq_some_iff.1 h
 cases h
 have h1:=hear_split hb
 obtain ⟨u,h2,h3⟩:=txn_split hc
 have h0:s=(if a.1=true then wYes else wNo)++a.2:=by
  unfold yesO at ha
  split at ha
  ·rename_i hp;cases ha;exact pre_split hp
  ·obtain ⟨z,hz,ha⟩:=Option.bind_eq_some_iff.1 ha
   cases ha;exact hear_split hz
 refine ⟨(if a.1=true then vYes else vNo)++u, ?_, ?_,by show (2:Int)≠4;decide,rfl⟩
 ·show aft (if a.1=true then vYes else vNo) (txnV names c.1)=_
  rw [h2];rfl
 ·show _=_++c.2
  rw [app_assoc,←h3,h0,h1]
  cases a.1
  ·show sp1++(wSays++(wNo++(wTo++b.2)))=vNo++b.2
   rw [show vNo=sp1++(wSays++(wNo++wTo))from rfl];simp only [app_assoc]
  ·show sp1++(wSays++(wYes++(wTo++b.2)))=vYes++b.2
   rw [show vYes=sp1++(wSays++(wYes++wTo))from rfl];simp only [app_assoc]
theorem verb_split {names:List ByteArray} {o:Int} {w s:ByteArray} {x:Aa×ByteArray} (h:verbO names o w s=some x): ∃u,verbV names x.1=some u∧sp1++(w++s)=u++x.2∧x.1.do_≠4∧x.1.org=o:=by
 unfold verbO at h
 split at h
 ·rename_i hw;rw [hw];exact beg_split h
 split at h
 ·rename_i hw;rw [hw];exact says_split h
 split at h
 ·rename_i hw;rw [hw];cases h
  exact ⟨vTicks,rfl,by rw [show vTicks=sp1++wTicks from rfl,app_assoc],by show (3:Int)≠4;decide,rfl⟩
 split at h
 ·rename_i hw;rw [hw]
  unfold stpO at h
  obtain ⟨a,ha,h⟩:=Option.bind_eq_some_iff.1 h
  obtain ⟨b,hb,h⟩:=Option.bind_eq_some_iff.1 h
  cases h
  obtain ⟨u,h1,h2⟩:=steps_split hb
  refine ⟨vGets++u, ?_, ?_,by show (5:Int)≠4;decide,rfl⟩
  ·show aft vGets (stepsV b.1)=_
   rw [h1];rfl
  ·show _=_++b.2
   rw [show vGets=sp1++(wGets++sp1)from rfl,hear_split ha];simp only [app_assoc];rw [←h2]
 split at h
 ·rename_i hw;rw [hw]
  unfold stpO at h
  obtain ⟨a,ha,h⟩:=Option.bind_eq_some_iff.1 h
  obtain ⟨b,hb,h⟩:=Option.bind_eq_some_iff.1 h
  cases h
  obtain ⟨u,h1,h2⟩:=steps_split hb
  refine ⟨vJudges++u, ?_, ?_,by show (10:Int)≠4;decide,rfl⟩
  ·show aft vJudges (stepsV b.1)=_
   rw [h1];rfl
  ·show _=_++b.2
   rw [show vJudges=sp1++(wJudges++sp1)from rfl,hear_split ha];simp only [app_assoc];rw [←h2]
 split at h
 ·rename_i hw;rw [hw]
  unfold nmO at h
  obtain ⟨a,ha,h⟩:=Option.bind_eq_some_iff.1 h
  obtain ⟨b,hb,h⟩:=Option.bind_eq_some_iff.1 h
  cases h
  obtain ⟨h1,_⟩:=num_split hb
  refine ⟨vStops++dgB (b.1:Int),rfl, ?_,by show (6:Int)≠4;decide,rfl⟩
  show _=_++b.2
  rw [show vStops=sp1++(wStops++wBehind)from rfl,hear_split ha];simp only [app_assoc];rw [←h1]
 split at h
 ·rename_i hw;rw [hw]
  unfold nmO at h
  obtain ⟨a,ha,h⟩:=Option.bind_eq_some_iff.1 h
  obtain ⟨b,hb,h⟩:=Option.bind_eq_some_iff.1 h
  cases h
  obtain ⟨h1,_⟩:=num_split hb
  refine ⟨vCrash++dgB (b.1:Int),rfl, ?_,by show (7:Int)≠4;decide,rfl⟩
  show _=_++b.2
  rw [show vCrash=sp1++(wCrashes++wKeeps)from rfl,hear_split ha];simp only [app_assoc];rw [←h1]
 split at h
 ·rename_i hw;rw [hw]
  unfold shwO at h
  obtain ⟨a,ha,h⟩:=Option.bind_eq_some_iff.1 h
  obtain ⟨b,hb,h⟩:=Option.bind_eq_some_iff.1 h
  cases h
  obtain ⟨u,h1,h2⟩:=txn_split hb
  refine ⟨vShows++u, ?_, ?_,by show (9:Int)≠4;decide,rfl⟩
  ·show aft vShows (txnV names b.1)=_
   rw [h1];rfl
  ·show _=_++b.2
   rw [show vShows=sp1++(wShows++sp1)from rfl,hear_split ha];simp only [app_assoc];rw [←h2]
 ·cases h
theorem act_split {names:List ByteArray} {s:ByteArray} {x:Aa×ByteArray} (h:actO names s=some x): ∃u,lineV names x.1=some u∧s=u++x.2:=by
 unfold actO at h
 split at h
 ·rename_i hp
  have hp:preB s wPost=true:=by
   unfold postQ at hp
   rw [Bool.and_eq_true] at hp;exact hp.1
  have h0:=pre_split hp
  unfold postO at h
  obtain ⟨a,ha,h⟩:=Option.bind_eq_some_iff.1 h
  obtain ⟨b,hb,h⟩:=Option.bind_eq_some_iff.1 h
  cases h
  obtain ⟨h1,_⟩:=num_split ha
  have h2:=hear_split hb
  refine ⟨(wPost++dgB (a.1:Int))++wComes,rfl, ?_⟩
  show s=_++b.2
  rw [app_assoc,app_assoc,←h2,←h1];exact h0
 ·obtain ⟨a,ha,h⟩:=Option.bind_eq_some_iff.1 h
  obtain ⟨b,hb,h⟩:=Option.bind_eq_some_iff.1 h
  obtain ⟨o,h1,h2⟩:=org_split ha
  have h3:=hear_split hb
  obtain ⟨u,h4,h5,h6,h7⟩:=verb_split h
  have hw:=word_split b.2 sgSp
  refine ⟨o++u, ?_, ?_⟩
  ·rw [lineV,if_neg h6,h7]
   show (orgV names ((a.1:Int)).toNat).bind _=_
   rw [Int.toNat_natCast,orgV,h1,Option.bind_some,h4];rfl
  ·rw [app_assoc,←h5,←hw,←h3];exact h2
theorem parse_line {names:List ByteArray} {s:ByteArray} (h:(parseA names s).2=0):lineA names (parseA names s).1=(s,0):=by
 unfold parseA at h⊢
 split at h
 rotate_left
 ·cases h
 rename_i hr
 rw [if_pos hr]
 cases hp:parseP names s with
 | none=>rw [hp] at h;cases h
 | some a=>
   show lineA names a=(s,0)
   unfold parseP at hp
   obtain ⟨x,hx,hp⟩:=Option.bind_eq_some_iff.1 hp
   split at hp
   rotate_left
   ·cases hp
   rename_i hc
   cases hp
   obtain ⟨u,h1,h2⟩:=act_split hx
   rw [hc.1,app_nil] at h2
   rw [lineA,if_pos ⟨hr,hc.2⟩,h1,←h2]
theorem gvO_pay {names:List ByteArray} : ∀(k:Nat) {sg s:ByteArray} {x:List Mb×ByteArray},gvO names k sg s=some x→ ∀m∈x.1,m.digest.size≤16384
 | 0,sg,s,x,h=>by rw [gvO] at h;cases h;intro m hm;cases hm
 | k+1,sg,s,x,h=>by
   rw [gvO] at h
   split at h
   ·cases h;intro m hm;cases hm
   obtain ⟨y,_,h⟩:=Option.bind_eq_some_iff.1 h
   obtain ⟨z,_,h⟩:=Option.bind_eq_some_iff.1 h
   obtain ⟨u,_,h⟩:=Option.bind_eq_some_iff.1 h
   obtain ⟨t,ht,h⟩:=Option.bind_eq_some_iff.1 h
   obtain ⟨l,hl,h⟩:=Option.bind_eq_some_iff.1 h
   cases h
   intro m hm
   rcases List.mem_cons.1 hm with rfl | hm
   ·exact (termO_sz ht).1
   ·exact gvO_pay k hl m hm
theorem verbO_pay {names:List ByteArray} {o:Int} {w s:ByteArray} {x:Aa×ByteArray} (h:verbO names o w s=some x): ∀m∈x.1.gives,m.digest.size≤16384:=by
 have hn: ∀ {a:Aa},a.gives= []→ ∀m∈a.gives,m.digest.size≤16384:=fun e m hm=>by rw [e] at hm;cases hm
 unfold verbO at h
 split at h
 ·unfold begO at h
  split at h
  ·cases h;exact hn rfl
  obtain ⟨y,_,h⟩:=Option.bind_eq_some_iff.1 h
  obtain ⟨z,_,h⟩:=Option.bind_eq_some_iff.1 h
  obtain ⟨g,hg,h⟩:=Option.bind_eq_some_iff.1 h
  cases h
  exact gvO_pay _ hg
 split at h
 ·unfold saysO at h
  obtain ⟨y,_,h⟩:=Option.bind_eq_some_iff.1 h
  obtain ⟨z,_,h⟩:=Option.bind_eq_some_iff.1 h
  obtain ⟨g,_,h⟩:=Option.bind_eq_some_iff.1 h
  cases h;exact hn rfl
 split at h
 ·cases h;exact hn rfl
 split at h
 ·unfold stpO at h
  obtain ⟨y,_,h⟩:=Option.bind_eq_some_iff.1 h
  obtain ⟨z,_,h⟩:=Option.bind_eq_some_iff.1 h
  cases h;exact hn rfl
 split at h
 ·unfold stpO at h
  obtain ⟨y,_,h⟩:=Option.bind_eq_some_iff.1 h
  obtain ⟨z,_,h⟩:=Option.bind_eq_some_iff.1 h
  cases h;exact hn rfl
 split at h
 ·unfold nmO at h
  obtain ⟨y,_,h⟩:=Option.bind_eq_some_iff.1 h
  obtain ⟨z,_,h⟩:=Option.bind_eq_some_iff.1 h
  cases h;exact hn rfl
 split at h
 ·unfold nmO at h
  obtain ⟨y,_,h⟩:=Option.bind_eq_some_iff.1 h
  obtain ⟨z,_,h⟩:=Option.bind_eq_some_iff.1 h
  cases h;exact hn rfl
 split at h
 ·unfold shwO at h
  obtain ⟨y,_,h⟩:=Option.bind_eq_some_iff.1 h
  obtain ⟨z,_,h⟩:=Option.bind_eq_some_iff.1 h
  cases h;exact hn rfl
 ·cases h
theorem actO_pay {names:List ByteArray} {s:ByteArray} {x:Aa×ByteArray} (h:actO names s=some x): ∀m∈x.1.gives,m.digest.size≤16384:=by
 unfold actO at h
 split at h
 ·unfold postO at h
  obtain ⟨y,_,h⟩:=Option.bind_eq_some_iff.1 h
  obtain ⟨z,_,h⟩:=Option.bind_eq_some_iff.1 h
  cases h
  intro m hm;cases hm
 ·obtain ⟨y,_,h⟩:=Option.bind_eq_some_iff.1 h
  obtain ⟨z,_,h⟩:=Option.bind_eq_some_iff.1 h
  exact verbO_pay h
theorem parse_pay {names:List ByteArray} {s:ByteArray} : ∀m∈(parseA names s).1.gives,m.digest.size≤16384:=by
 unfold parseA
 split
 rotate_left
 ·intro m hm;cases hm
 cases hp:parseP names s with
 | none=>intro m hm;cases hm
 | some a=>
   unfold parseP at hp
   obtain ⟨x,hx,hp⟩:=Option.bind_eq_some_iff.1 hp
   split at hp
   ·cases hp;exact actO_pay hx
   ·cases hp
theorem parse_doc {names:List ByteArray} {s:ByteArray} {b:Aa} (hn:rollB names=true) (hb:actR names s b) (hp: ∀m∈b.gives,m.digest.size<1099511627776):parseA names s=if (lineA names b).2=0∧(lineA names b).1=s then (b,0)else (zA,7):=by
 split
 ·rename_i h
  obtain ⟨h1,h2,h3⟩:=line_some h.1
  have h4: ∀m∈b.gives,m.digest.size<1000000:=fun m hm=>by
   have hg:GvP m:=by
    cases h2 with
    | begin_ _ _ _ _ _ _ q=>exact q m hm
    | _=>cases hm
   have hmay:mayB m.digest=true:=by rw [mayB,decide_eq_true_eq];exact hg.2
   have h5:=hp m hm
   have:=((mayB_iff (by omega)).1 hmay).2
   omega
  have:=line_back_ h.1 h4
  rw [h.2] at this
  exact this
 ·rename_i h
  have hpp:=parse_pay (names:=names) (s:=s)
  have hpl:=parse_line (names:=names) (s:=s)
  unfold parseA at hpp hpl⊢
  rw [if_pos hn] at hpp hpl⊢
  cases hq:parseP names s with
  | none=>rfl
  | some a=>
    rw [hq] at hpp hpl
    have h1:lineA names a=(s,0):=hpl rfl
    have hpp: ∀m∈a.gives,m.digest.size≤16384:=hpp
    have h2:rollB names=true∧AcP a∧MayL names.length a:=Classical.byContradiction fun hc=>by
     rw [(line_doc names a).2 hc] at h1
     cases h1
    have h3:=(line_doc names a).1 h2
    rw [h1] at h3
    have h4:s=lineT names a:=congrArg Prod.fst h3
    have e:b=a:=act_read hn h2.2.1 h2.2.2 (fun m hm=>by have:=hpp m hm;omega) (by rw [←h4];exact hb)
    rw [e,h1] at h
    exact absurd ⟨rfl,rfl⟩ h
def nlB:ByteArray:=⟨#[10]⟩
abbrev N10 (s:ByteArray):Prop:= ∀b∈s.data.toList,b≠10
theorem N10.app {s t:ByteArray} (hs:N10 s) (ht:N10 t):N10 (s++t):=fun b hb=>by
 rw [app_list,List.mem_append] at hb
 exact hb.elim (hs b) (ht b)
theorem name_10 {s:ByteArray} (h:checkN s=0):N10 s:=by
 have:=runes_bytes (q:=fun r=>decide (r≠10)) (fun r hr=>decide_eq_true (by omega)) (s:=s) fun r hr=>by
  have ho:=(name_odd h).2 r hr
  refine decide_eq_true fun e=> ?_
  have e:r=10:=by omega
  rw [e] at ho
  exact absurd ho (by decide)
 intro b hb e
 have:=of_decide_eq_true (this b hb)
 rw [e] at this
 exact this (by decide)
theorem plain_10 {x:ByteArray} (hx:plainB x=true):N10 x:=by
 have hw:whileN x plainR=x.size:=by simpa [plainB] using hx
 have key: ∀k p,x.size-p≤k→whF plainR (rsF x p) x.size=x.size→ ∀y∈rsF x p,plainR (y.2:Int)=true:=by
  intro k
  induction k with
  | zero=>
    intro p h1 _ y hy
    rw [rsF_ge (by omega)] at hy;cases hy
  | succ k ih=>
    intro p h1 h2 y hy
    by_cases hp:p<x.size
    ·have hwd:=decode_wide x hp
     rw [rsF_lt hp] at hy h2
     rw [whF] at h2
     split at h2
     ·rename_i hq
      rcases List.mem_cons.1 hy with rfl | hy
      ·exact hq
      ·exact ih _ (by omega) h2 y hy
     ·exfalso;dsimp only at h2;omega
    ·rw [rsF_ge hp] at hy;cases hy
 have hall:=runes_bytes (s:=x) (q:=fun r=>decide (r≠10)) (fun r hr=>by simp;omega) (fun r hr=>by
  obtain ⟨y,hy,rfl⟩:=List.mem_map.1 hr
  have:=key x.size 0 (by omega) hw y hy
  refine decide_eq_true fun e=> ?_
  have e:((y.2:Nat):Int)=10:=e
  rw [e] at this
  exact absurd this (by decide))
 intro b hb e
 have:=hall b hb
 rw [e] at this
 exact absurd this (by decide)
theorem hexQ_10: ∀n:Fin 256,hexQ ((n.val.toUInt8.toNat:Nat):Int)=true→n.val.toUInt8≠10:=by decide+kernel
theorem atomQ_10: ∀n:Fin 256,atomQ ((n.val.toUInt8.toNat:Nat):Int)=true→n.val.toUInt8≠10:=by decide+kernel
theorem datum_10 (x:ByteArray):N10 (datumB x):=by
 unfold datumB
 split
 ·rename_i hp
  exact (N10.app (s:=⟨#[34]⟩) (by decide) (plain_10 hp)).app (by decide)
 ·intro b hb
  rcases List.mem_cons.1 hb with rfl | hb
  ·decide
  ·exact fin_b (p:=fun b=>hexQ (b.toNat:Int)=true→b≠10) hexQ_10 b (hex_is _ b hb)
theorem seq_10 {sg:ByteArray} (hg:N10 sg): ∀(l:List ByteArray) (f:Bool),(∀x∈l,N10 x)→N10 (seqC sg f l)
 | [],_,_=>fun b hb=>by cases hb
 | x::l,f,hl=>by
   have ih:=seq_10 hg l false fun y hy=>hl y (List.mem_cons_of_mem _ hy)
   have h1:=hl x List.mem_cons_self
   rw [seqC]
   cases f with
   | true=>exact h1.app ih
   | false=>exact (hg.app h1).app ih
theorem line_10: ∀(k:Nat),k≤16→ ∀t,Tm k t→t.size≤16384→N10 (lineB k t)
 | 0,_,_,h,_=>h.elim
 | k+1,hk,t,hT,hz=>by
   have hT0:=hT
   have hby:=hT0.byte
   obtain ⟨hd,ps,h1,ht,h3⟩:=hT
   have hparts:partsL t=ps:=by rw [ht];exact parts_of (k:=k) (by omega) h1 h3 (by rw [←ht];omega)
   have hseq: ∀f,N10 (seqC sepB f ((partsL t).map (lineB k))):=fun f=>by
    rw [hparts]
    exact seq_10 (by decide) _ f fun x hx=>by
     obtain ⟨p,hp,rfl⟩:=List.mem_map.1 hx
     exact line_10 k (by omega) p (h3 p hp) (by have:=cat_mem hp;rw [ht,app_size] at hz;omega)
   rw [lineB]
   split
   ·exact datum_10 _
   split
   ·rename_i h2
    exact N10.app (by decide) fun b hb=>fin_b (p:=fun b=>atomQ (b.toNat:Int)=true→b≠10) atomQ_10 b (atom_all hk hT0 hz h2 b hb)
   split
   ·exact (N10.app (by decide) (hseq true)).app (by decide)
   ·rw [ext_one (by have:=hT0.pos;omega)]
    have hu:N10 (bytesI [byte t 0]):=by
     rcases hby with e | e | e | e | e | e <;> rw [e] <;> decide
    exact ((hu.app (by decide)).app (hseq true)).app (by decide)
theorem lineE_10 {t:ByteArray} (ht:mayB t=true) (hz:t.size<4611686018427387904):N10 (lineE t).1:=by
 rw [lineE,if_pos ht]
 obtain ⟨hT,hz2⟩:=(mayB_iff hz).1 ht
 exact line_10 16 (Nat.le_refl _) t hT hz2
theorem dg_10 (n:Int):N10 (dgB n):=dg_ne (.inl (by decide))
theorem rwB_10: ∀l:List Int,N10 (rwB l)
 | []=>fun b hb=>by cases hb
 | v::l=>by rw [rwB];exact (N10.app (s:=sp1) (by decide) (dg_10 v)).app (rwB_10 l)
theorem fsB_10 (x:Sp): ∀l:List Nat,N10 (fsB x l)
 | []=>fun b hb=>by cases hb
 | v::l=>by rw [fsB];exact (N10.app (s:=sp1) (by decide) (dg_10 _)).app (fsB_10 x l)
theorem kW_10 (d:Int):N10 (kW d):=by
 unfold kW N10
 repeat' split
 all_goals decide
theorem step_10 {x:Sp} (h:SpP x):N10 (stepT x):=by
 rw [stepT]
 refine ((kW_10 _).app (fsB_10 x _)).app ?_
 unfold tailT
 split
 ·have:=dataE_sz (s:=x.text)
  exact N10.app (by decide) (lineE_10 (data_may h.text) (by omega))
 split
 ·exact rwB_10 _
 ·exact fun b hb=>by cases hb
theorem steps_10 {l:List Sp} (h: ∀x∈l,SpP x):N10 (stepsT l):=by
 unfold stepsT
 split
 ·decide
 ·exact seq_10 (by decide) _ _ fun p hp=>by
   obtain ⟨x,hx,rfl⟩:=List.mem_map.1 hp
   exact step_10 (h x hx)
theorem nameT_10 {names:List ByteArray} (hn:rollB names=true) (n:Int):N10 (nameT names n):=by
 unfold nameT
 cases h:names[n.toNat]? with
 | none=>exact fun b hb=>by cases hb
 | some z=>exact name_10 (roll_name hn z (List.mem_of_getElem? h))
theorem txnT_10 {names:List ByteArray} (hn:rollB names=true) (t:Tx):N10 (txnT names t):=by
 rw [txnT]
 exact (nameT_10 hn _).app (((N10.app (by decide) (dg_10 _)).app (by decide)).app (dg_10 _))
theorem givesT_10 {names:List ByteArray} (hn:rollB names=true): ∀(l:List Mb) (f:Bool),(∀m∈l,GvP m∧m.digest.size<1000000)→N10 (givesT names f l)
 | [],_,_=>fun b hb=>by cases hb
 | m::l,f,h=>by
   have hm:=h m List.mem_cons_self
   have hmay:mayB m.digest=true:=by rw [mayB,decide_eq_true_eq];exact hm.1.2
   rw [givesT,giveT]
   refine ((N10.app ?_ (nameT_10 hn _)).app (N10.app (by decide) (lineE_10 hmay (by omega)))).app (givesT_10 hn l false fun y hy=>h y (List.mem_cons_of_mem _ hy))
   cases f <;> decide
theorem lineA_10 {names:List ByteArray} {a:Aa} (h:(lineA names a).2=0) (hd: ∀m∈a.gives,m.digest.size<1000000):N10 (lineA names a).1:=by
 have h2:rollB names=true∧AcP a∧MayL names.length a:=Classical.byContradiction fun hc=>by
  rw [(line_doc names a).2 hc] at h
  cases h
 rw [(line_doc names a).1 h2]
 obtain ⟨hn,ha,_⟩:=h2
 show N10 (lineT names a)
 unfold lineT
 cases ha with
 | deliver n _=>exact (N10.app (s:=wPost) (by decide) (dg_10 n)).app (by decide)
 | begin_ o au g _ _ _ h4=>exact (nameT_10 hn o).app ((N10.app (s:=vBegins) (by decide) (nameT_10 hn au)).app (givesT_10 hn g true fun m hm=>⟨h4 m hm,hd m hm⟩))
 | submit o t y _ _=>exact (nameT_10 hn o).app (N10.app (s:=if y=true then vYes else vNo) (by cases y <;> decide) (txnT_10 hn t))
 | tick o _=>exact (nameT_10 hn o).app (t:=vTicks) (by decide)
 | restart o _=>exact (nameT_10 hn o).app (t:=vAnew) (by decide)
 | arm o n _ _=>exact (nameT_10 hn o).app (N10.app (s:=vStops) (by decide) (dg_10 n))
 | crash o n _ _=>exact (nameT_10 hn o).app (N10.app (s:=vCrash) (by decide) (dg_10 n))
 | inject o l _ _ h3=>exact (nameT_10 hn o).app (N10.app (s:=vGets) (by decide) (steps_10 h3))
 | present o l _ _ h3=>exact (nameT_10 hn o).app (N10.app (s:=vJudges) (by decide) (steps_10 h3))
 | exprt o t _ _=>exact (nameT_10 hn o).app (N10.app (s:=vShows) (by decide) (txnT_10 hn t))
end Go.Proofs.YtladcmfbkiogbaaGreatDoor
