import Derived.Test.YtladcmfbkiogbaaGreatDoorBRB
import Derived.Test.YtladcmfbkiogbaaGreatDoorBRC
import Derived.Test.YtladcmfbkiogbaaGreatDoorBRA
import Derived.Lib.AtoiTie
set_option maxHeartbeats 32000000
set_option linter.all false
namespace Go.Proofs.YtladcmfbkiogbaaGreatDoor
open Go.Chi
set_option maxRecDepth 10000
def lookR (r:Nat):Int:=(lookO r).getD r
def lookL (s:ByteArray):List Int:=(runesL s).map lookR
theorem iC_one (x:Int): ∀u∈iC x,u.oneCell'=true:=by intro u hu;simp [iC] at hu;subst hu;rfl
theorem look_ok (M:Mem) (L:HL) (s:ByteArray) (hs:s.size<1000000):Tr Tryz.prog 123 [.string s] M L (fun v M' L'=>M.le M'∧L'=L∧ ∃a c,v= .slice a (lookL s).length c∧SlM M' 1 a (lookL s).length ((lookL s).map iC)):=by
 have hlen:(lookL s).length≤s.size:=by
  have:=rsF_len s s.size 0 (by omega)
  simp only [lookL,runesL,List.length_map];omega
 refine Tr.intro 28 Tryz.func123 rfl rfl Tryz.call123 rfl ?_;intro C hC hro
 repeat (first | refine yy ?_ | refine yx fun _=> ?_ | (refine oc (looks_ok _ _) ?_;rintro _ M1 _ ⟨hM1,bm,es,clock,rfl,rfl,hes⟩) | (refine runL_op (st_rangeS tok rfl rfl) rfl rfl rfl ?_;rintro _ _ _ ⟨b,rfl,rfl,rfl⟩))
 refine run_loopN (fun i σ1 M2 L1=>i≤s.size∧M1=M2∧ ∃p xs a c N,i≤p∧xs.length≤i∧xs++((rsF s p).map Prod.snd).map lookR=lookL s∧OS 21 1 (.slice a xs.length c) xs.length (xs.map iC).flatten N∧L1=N++(b,.stringIter s p)::mpO bm es clock::L∧σ1= [(11,pt b),(4,.slice a xs.length c),(3,.map (some bm))]) s.size [(11,pt b),(4,.slice none 0 0),(3,.map (some bm))] ?_ ⟨Nat.zero_le _,rfl,0,[],none,0,[],Nat.le_refl _,Nat.le_refl _,rfl,OS.nil _ _,rfl,rfl⟩ (fun j _ _ _ h=>h.1) ?_
 ·exact ⟨rfl,rfl,rfl,trivial⟩
 rintro i _ _ _ ⟨hi,rfl,p,xs,a,c,N,hip,hxi,hn,hO,rfl,rfl⟩ hnext
 by_cases hlt:p<s.size
 ·have hwd:=decode_wide s hlt
  rw [rsF_lt hlt,List.map_cons,List.map_cons] at hn
  have hm:(bm,Obj.map ⟨ents (fun n:Int=>Value.int .i32 n) es⟩ clock)∈N++(b,Obj.stringIter s (p+(Utf8.decode s p).2))::mpO bm es clock::L:=List.mem_append_right _ (List.mem_cons_of_mem _ List.mem_cons_self)
  repeat (first | refine yy ?_ | refine yx fun _=> ?_ | (refine runL_op (st_nextS rfl (by (repeat (first | with_reducible apply Upd.here | with_reducible apply Upd.there | with_reducible apply Upd.append_left))) hlt) rfl rfl rfl ?_;rintro _ _ _ ⟨rfl,rfl,rfl⟩) | refine run_cond (t:=true) rfl (fun _=> ?_) (fun h=>by cases h) | refine rq (qt_lookupG tok keyR rfl rfl rfl rfl (.inl hm) rfl (hes _)) ?_ | (refine runL_as 15 (.tuple ⟨[.int .i32 ((lookO ((Utf8.decode s p).1:Int)).getD 0),.bool (lookO ((Utf8.decode s p).1:Int)).isSome]⟩) rfl (by cases lookO ((Utf8.decode s p).1:Int) <;> rfl) ?_;refine yy ?_;refine yy ?_;refine yy ?_;refine yy ?_))
  generalize (Utf8.decode s p).1=r at*
  generalize (Utf8.decode s p).2=w at*
  refine run_condJ [(11,pt b),(4,.slice a xs.length c),(3,.map (some bm)),(6,.int .i32 (lookR r))] rfl (fun h1 hk=> ?_) (fun h1 hk=> ?_) ?_
  ·have hv:(lookO (r:Int)).getD 0=lookR r:=by
    obtain ⟨x,hx⟩:=Option.isSome_iff_exists.1 h1
    rw [lookR,hx];rfl
   iterate 4 refine yy ?_
   exact run_sub' hk ⟨rfl,rfl,rfl,congrArg (fun z=>some (Value.int .i32 z)) hv,trivial⟩
  ·have hv:(r:Int)=lookR r:=by
    have h2:lookO (r:Int)=none:=by cases h:lookO (r:Int)with | none=>rfl | some x=>rw [h] at h1;cases h1
    rw [lookR,h2];rfl
   refine yy ?_
   exact run_sub' hk ⟨rfl,rfl,rfl,congrArg (fun z=>some (Value.int .i32 z)) hv,trivial⟩
  have hxl:xs.length+1≤(lookL s).length:=by rw [←hn];simp
  repeat (first | refine yy ?_ | refine yx fun _=> ?_ | (refine ro (st_app1 tok rfl rfl rfl rfl rfl rfl rfl rfl hO rfl (iC_one _) (by omega) (by omega)) ?_;rintro _ _ _ ⟨rfl,N',a',c',rfl,rfl,hO'⟩))
  refine run_sub' (hnext _ _ _ ⟨by omega,rfl,p+w,xs++ [lookR r],a',c',N',by omega,by simp;omega,by simpa using hn,by rw [List.length_append,List.map_append,List.flatten_append];exact hO',rfl,rfl⟩) ⟨rfl,by rw [List.length_append];rfl,rfl,trivial⟩
 ·rw [rsF_ge hlt,List.map_nil,List.map_nil,List.append_nil] at hn
  repeat (first | refine yy ?_ | refine yx fun _=> ?_ | refine runL_q (qt_nextEnd rfl (by (repeat (first | with_reducible apply List.mem_cons_self | with_reducible assumption | with_reducible apply List.mem_cons_of_mem | with_reducible apply List.mem_append_right))) hlt) rfl rfl rfl ?_ | refine run_cond (t:=false) rfl (fun h=>by cases h) (fun _=> ?_))
  refine run_retE hC (rs:= [.tmp 2]) rfl (resT rfl resN) fun w hw=> ?_
  obtain ⟨M2,a2,c2,q1,q2,q3,q4⟩:=hw.freezeOS hO (by simp) (fun c hc=>by obtain ⟨x,_,rfl⟩:=List.mem_map.1 hc;rfl)
  subst hn
  exact ⟨M2,L,q2.drop.drop,Mem.le_trans hM1 q1,rfl,a2,c2,q3,q4⟩
def skelB (s:ByteArray):ByteArray:=Go.runesBytes (lookL s)
theorem skel_ok (M:Mem) (L:HL) (s:ByteArray) (hs:s.size<1000000):TrQ Tryz.prog 86 [.string s] M L (.tuple ⟨[.string (if checkN s=0 then skelB s else ⟨#[]⟩),.int .i64 (checkN s)]⟩):=by
 refine Tr.intro 13 Tryz.func86 rfl rfl Tryz.call86 rfl ?_;intro C hC hro
 repeat (first | refine yy ?_ | refine yx fun _=> ?_ | refine qc (ncheck_ok _ _ s hs) ?_)
 refine run_cond (t:=checkN s !=0) rfl (fun h=> ?_) (fun h=> ?_)
 ·have h0: ¬checkN s=0:=by simpa using h
  repeat (first | refine yy ?_ | refine yx fun _=> ?_)
  exact run_ret hC (rs:= [.tmp 2,.tmp 3]) rfl (resT rfl (resT rfl resN)) (fun _ h=>h) ⟨by rw [if_neg h0];rfl,rfl,rfl⟩
 ·have h0:checkN s=0:=by simpa using h
  repeat (first | refine yy ?_ | refine yx fun _=> ?_ | (refine oc (look_ok _ _ s hs) ?_;rintro _ M1 _ ⟨hM1,rfl,a,c,rfl,hsl⟩) | refine rq (qt_runesStr tok rfl rfl rfl rfl hsl) ?_)
  exact run_ret hC (rs:= [.tmp 2,.tmp 3]) rfl (resT rfl (resT rfl resN)) (fun _ h=>h.of_le hM1) ⟨by rw [if_pos h0,h0];rfl,rfl,rfl⟩
def clashB (a b:ByteArray):Bool:=decide (checkN a=0)&&(decide (checkN b=0)&&(decide (a≠b)&&decide (skelB a=skelB b)))
theorem clash_ok (M:Mem) (L:HL) (a b:ByteArray) (ha:a.size<1000000) (hb:b.size<1000000):TrQ Tryz.prog 49 [.string a,.string b] M L (.bool (clashB a b)):=by
 refine Tr.intro 35 Tryz.func49 rfl rfl Tryz.call49 rfl ?_;intro C hC hro
 repeat (first | refine yy ?_ | refine yx fun _=> ?_ | refine qc (skel_ok _ _ a ha) ?_ | refine qc (skel_ok _ _ b hb) ?_)
 refine run_ret hC (rs:= [.tmp 4]) rfl (resT rfl resN) (fun _ h=>h) ⟨?_,rfl,rfl⟩
 show Value.bool _=_
 rw [clashB,bytes_beq,bytes_beq]
 congr 1
 by_cases h1:checkN a=0 <;> by_cases h2:checkN b=0 <;> by_cases h3:a=b <;> simp [h1,h2,h3]
def badN (s:ByteArray):Bool:=checkN s !=0
theorem roll1_ok (M:Mem) (L:HL) (s:ByteArray) (hs:s.size<1000000):TrQ Tryz.prog 46 [.string s] M L (.bool (badN s)):=by
 refine Tr.intro 6 Tryz.func46 rfl rfl Tryz.call46 rfl ?_;intro C hC hro
 repeat (first | refine yy ?_ | refine yx fun _=> ?_ | refine qc (ncheck_ok _ _ s hs) ?_)
 exact run_ret hC (rs:= [.tmp 2]) rfl (resT rfl resN) (fun _ h=>h) ⟨rfl,rfl,rfl⟩
theorem indexS_ok (M:Mem) (L:HL) (s:SStr) (hs:StOk M s) (hz: ∀x∈s.xs,x.size<1000000):
 Tr Tryz.prog 83 [s.v,.func (.func 46) ⟨[]⟩ ⟨[]⟩] M L (fun v M' L'=> ∃n:Int,v= .int .i64 n∧decide (n≥0)=s.xs.any badN∧M=M'∧L=L'):=by
 have hl:=hs.len
 have h6:=hs.2
 have h0:=hs.1
 obtain ⟨a,n,c,xs⟩:=s
 simp only [SStr.v,SStr.Ok] at*
 refine Tr.intro 19 Tryz.func83 rfl rfl Tryz.call83 rfl ?_;intro C hC hro
 repeat (first | refine yy ?_ | refine yx fun _=> ?_)
 refine run_loopN (fun j σ1 M1 L1=>j≤n∧M=M1∧L=L1∧((xs.take j).any badN)=false∧σ1= [(8,iv j),(7,iv n),(0,.slice a n c),(1,.func (.func 46) ⟨[]⟩ ⟨[]⟩)]) n [(8,iv 0),(7,iv n),(0,.slice a n c),(1,.func (.func 46) ⟨[]⟩ ⟨[]⟩)] ?_ ⟨Nat.zero_le _,rfl,rfl,by simp,rfl⟩ (fun j _ _ _ h=>h.1) ?_
 ·exact ⟨rfl,rfl,rfl,rfl,trivial⟩
 rintro j _ _ _ ⟨hj,rfl,rfl,hpre,rfl⟩ hnext
 repeat (first | refine yy ?_ | refine yx fun _=> ?_)
 refine run_cond rfl (fun h1=> ?_) (fun h1=> ?_)
 ·have hlt:j<n:=by simpa using h1
  obtain ⟨b,off,m,rfl,hm,hc⟩:=SStr.at_ h0 hlt
  repeat (first | refine yy ?_ | refine yx fun _=> ?_ | refine runL_q (st_callV rfl rfl (fun _=>roll1_ok _ _ m (hz m (List.mem_of_getElem? hm)))) rfl rfl rfl ?_)
  refine run_cond rfl (fun h2=> ?_) (fun h2=> ?_)
  ·repeat (first | refine yy ?_ | refine yx fun _=> ?_)
   exact run_ret hC (rs:= [.tmp 4]) rfl (resT rfl resN) (fun _ h=>h) ⟨j,rfl,by rw [any_true _ hm h2];simp,rfl,rfl⟩
  ·repeat (first | refine yy ?_ | refine yx fun _=> ?_)
   exact run_sub' (hnext _ _ _ ⟨hlt,rfl,rfl,by rw [any_snoc _ hm hpre];exact h2,rfl⟩) ⟨lk_succ rfl (by omega),rfl,rfl,rfl,trivial⟩
 ·have hge:j=n:=by simp at h1;omega
  rw [hge,List.take_of_length_le (by omega)] at hpre
  repeat (first | refine yy ?_ | refine yx fun _=> ?_)
  exact run_ret hC (rs:= [.tmp 4]) rfl (resT rfl resN) (fun _ h=>h) ⟨-1,rfl,by rw [hpre];rfl,rfl,rfl⟩
theorem containsS_ok (M:Mem) (L:HL) (s:SStr) (hs:StOk M s) (hz: ∀x∈s.xs,x.size<1000000):
 TrQ Tryz.prog 45 [s.v,.func (.func 46) ⟨[]⟩ ⟨[]⟩] M L (.bool (s.xs.any badN)):=by
 refine Tr.intro 9 Tryz.func45 rfl rfl Tryz.call45 rfl ?_;intro C hC hro
 repeat (first | refine yy ?_ | refine yx fun _=> ?_ | (refine oc (indexS_ok _ _ s hs hz) ?_;rintro _ _ _ ⟨n,rfl,hn,rfl,rfl⟩))
 exact run_ret hC (rs:= [.tmp 4]) rfl (resT rfl resN) (fun _ h=>h) ⟨by rw [←hn];rfl,rfl,rfl⟩
def blkP (xs:List ByteArray) (k:Nat):List (ByteArray×ByteArray):=(xs.take k).map fun a=>(a,xs.getD k ⟨#[]⟩)
def prsK (xs:List ByteArray):Nat→List (ByteArray×ByteArray)
 | 0=> []
 | k+1=>prsK xs k++blkP xs k
def prs (xs:List ByteArray):List (ByteArray×ByteArray):=prsK xs xs.length
theorem prsK_pre (xs:List ByteArray) (k:Nat): ∀n,k≤n→ ∃r,prsK xs n=prsK xs k++r
 | 0,h=>⟨[],by rw [show k=0 by omega];rfl⟩
 | n+1,h=>by
   by_cases e:k=n+1
   ·exact ⟨[],by rw [e,List.append_nil]⟩
   ·obtain ⟨r,hr⟩:=prsK_pre xs k n (by omega)
    exact ⟨r++blkP xs n,by rw [prsK,hr,List.append_assoc]⟩
theorem prs_at {xs:List ByteArray} {k j:Nat} {a b:ByteArray} (hk:xs[k]? =some b) (hj:xs[j]? =some a) (hjk:j<k):(prs xs)[(prsK xs k).length+j]? =some (a,b):=by
 have hlt:=(List.getElem?_eq_some_iff.1 hk).1
 obtain ⟨r,hr⟩:=prsK_pre xs (k+1) xs.length (by omega)
 rw [prs,hr,prsK,List.append_assoc,List.getElem?_append_right (by omega),Nat.add_sub_cancel_left]
 have hl:(blkP xs k).length=k:=by rw [blkP,List.length_map,List.length_take];omega
 rw [List.getElem?_append_left (by omega),blkP,List.getElem?_map,List.getElem?_take,if_pos hjk,hj,List.getD_eq_getElem?_getD,hk]
 rfl
def prC (p:ByteArray×ByteArray):List Value:= [.string p.1,.string p.2]
theorem subA0 (s b off c:Nat):subA s (some ⟨b,off,none⟩) c 0=some ⟨b,off,none⟩:=by
 unfold subA
 split <;> simp [add_none]
theorem ahead1_ok (M:Mem) (s:SStr) (bt:Nat) (hb:Cells M [] bt 0 [s.v]) (hs:StOk M s) (hcap:s.len≤s.cap):
 IterM Tryz.prog 85 [pt bt] M ((prs s.xs).map prC):=by
 intro lp I X M0 L0 hle hmono hyield hI
 have hl:=hs.len
 have h6:=hs.2
 have h0:SlM M0 1 s.a s.len (s.xs.map stC):=hs.1.le hle
 have hb0:=hb.le hle
 obtain ⟨a,n,c,xs⟩:=s
 simp only [SStr.v] at*
 refine Tr.intro 29 Tryz.func85 rfl rfl Tryz.call85 rfl ?_;intro C hC hro
 repeat (first | refine yy ?_ | refine yx fun _=> ?_)
 refine run_loopN (fun k σ1 M1 L1=>k≤n∧M0.le M1∧I (prsK xs k).length M1 L1∧σ1= [(9,iv k),(8,iv n),(7,.slice a n c),(0,yv lp),(1,pt bt)]) n [(9,iv 0),(8,iv n),(7,.slice a n c),(0,yv lp),(1,pt bt)] ?_ ⟨Nat.zero_le _,Mem.le_refl _,hI,rfl⟩ (fun j _ _ _ h=>h.1) ?_
 ·exact ⟨rfl,rfl,rfl,rfl,rfl,trivial⟩
 rintro k _ M1 L1 ⟨hk,hM1,hIk,rfl⟩ hnext
 have hb1:=hb0.le hM1
 have h1:=h0.le hM1
 repeat (first | refine yy ?_ | refine yx fun _=> ?_)
 refine run_cond rfl (fun h2=> ?_) (fun h2=> ?_)
 ·have hlt:k<n:=by simpa using h2
  obtain ⟨b,off,m,rfl,hm,hc⟩:=SStr.at_ h1 hlt
  repeat (first | refine yy ?_ | refine yx fun _=> ?_ | refine rq (qt_sliceHi (n:=k) tok rfl rfl rfl rfl (fun _=>by omega)) ?_)
  refine run_loopN (fun j σ1 M2 L2=>j≤k∧M0.le M2∧I ((prsK xs k).length+j) M2 L2∧σ1= [(18,iv j),(17,iv k),(16,.slice (some ⟨b,off,none⟩) k c),(4,.string m),(9,iv k),(8,iv n),(7,.slice (some ⟨b,off,none⟩) n c),(0,yv lp),(1,pt bt)]) k [(18,iv 0),(17,iv k),(16,.slice (some ⟨b,off,none⟩) k c),(4,.string m),(9,iv k),(8,iv n),(7,.slice (some ⟨b,off,none⟩) n c),(0,yv lp),(1,pt bt)] ?_ ⟨Nat.zero_le _,hM1,hIk,rfl⟩ (fun j _ _ _ h=>h.1) ?_
  ·exact ⟨rfl,rfl,congrArg some (by rw [subA0]),rfl,rfl,rfl,rfl,rfl,rfl,trivial⟩
  rintro j _ M2 L2 ⟨hj,hM2,hIj,rfl⟩ hnext2
  have h2':=h0.le hM2
  repeat (first | refine yy ?_ | refine yx fun _=> ?_)
  refine run_cond rfl (fun h3=> ?_) (fun h3=> ?_)
  ·have hlt2:j<k:=by simpa using h3
   obtain ⟨b',off',x,ha,hx,hcx⟩:=SStr.at_ h2' (show j<n by omega)
   cases ha
   repeat (first | refine yy ?_ | refine yx fun _=> ?_ | (refine runL_op (st_yield rfl rfl (fun _=>hyield _ _ _ _ [] (by rw [List.getElem?_map,prs_at hm hx hlt2];rfl) hM2 hIj)) rfl rfl rfl ?_;rintro v M4 _ ⟨L5,rfl,hM4,hv4⟩))
   rcases hv4 with ⟨rfl,hI5⟩ | ⟨rfl,hX⟩
   ·repeat (first | refine yy ?_ | refine yx fun _=> ?_)
    refine run_cond rfl (fun h=>by cases h) (fun _=> ?_)
    repeat (first | refine yy ?_ | refine yx fun _=> ?_)
    exact run_sub' (hnext2 _ _ _ ⟨hlt2,Mem.le_trans hM2 hM4,hI5,rfl⟩) ⟨lk_succ rfl (by omega),rfl,rfl,rfl,rfl,rfl,rfl,rfl,rfl,trivial⟩
   ·repeat (first | refine yy ?_ | refine yx fun _=> ?_)
    refine run_cond rfl (fun _=> ?_) (fun h=>by cases h)
    exact run_ret hC (rs:= []) rfl resN (fun _ h=>h) ⟨Mem.le_trans hM2 hM4,.inr ⟨_,hX⟩⟩
  ·have hge:j=k:=by simp at h3;omega
   subst hge
   repeat (first | refine yy ?_ | refine yx fun _=> ?_)
   refine run_sub' (hnext _ _ _ ⟨hlt,hM2, ?_,rfl⟩) ⟨lk_succ rfl (by omega),rfl,rfl,rfl,rfl,trivial⟩
   rw [prsK,List.length_append]
   have:(blkP xs j).length=j:=by rw [blkP,List.length_map,List.length_take];omega
   rw [this]
   exact hIj
 ·have hge:k=n:=by simp at h2;omega
  subst hge
  repeat (first | refine yy ?_ | refine yx fun _=> ?_)
  refine run_end hC rfl (vs:= []) trivial (fun _ h=>h) ⟨hM1,.inl ?_⟩
  rw [List.length_map,prs,hl]
  exact hIk
theorem ahead_ok (M:Mem) (L:HL) (s:SStr) (hs:StOk M s) (hcap:s.len≤s.cap):Tr Tryz.prog 48 [s.v] M L (fun v M' L'=>M.le M'∧L'=L∧ ∃bt,v= .func (.func 85) #[] ⟨[pt bt]⟩∧IterM Tryz.prog 85 [pt bt] M' ((prs s.xs).map prC)):=by
 refine Tr.intro 4 Tryz.func48 rfl rfl Tryz.call48 rfl ?_;intro C hC hro
 repeat (first | refine yy ?_ | refine yx fun _=> ?_)
 rename_i bt
 refine run_retE hC (rs:= [.tmp 2]) rfl (resT rfl resN) fun w hw=> ?_
 obtain ⟨M',h1,h2,h3⟩:=hw.freeze1
 exact ⟨M',L,h3,h1,rfl,bt,rfl,ahead1_ok M' s bt (Cells.ofBlk h2) (hs.le h1) hcap⟩
def likeB (p:ByteArray×ByteArray):Bool:=decide (p.1=p.2)||clashB p.1 p.2
def fineB (xs:List ByteArray):Bool:=(decide (1≤xs.length)&&decide (xs.length≤8))&& !xs.any badN
def rollB (xs:List ByteArray):Bool:=fineB xs&& !(prs xs).any likeB
theorem prs_mem {xs:List ByteArray} {p:ByteArray×ByteArray} (hp:p∈prs xs):p.1∈xs∧p.2∈xs:=by
 have key: ∀k,k≤xs.length→p∈prsK xs k→p.1∈xs∧p.2∈xs:=by
  intro k
  induction k with
  | zero=>intro _ h;cases h
  | succ k ih=>
    intro hk h
    rcases List.mem_append.1 h with h | h
    ·exact ih (by omega) h
    ·obtain ⟨a,ha,rfl⟩:=List.mem_map.1 h
     refine ⟨List.mem_of_mem_take ha, ?_⟩
     rw [List.getD_eq_getElem?_getD,List.getElem?_eq_getElem (by omega)]
     exact List.getElem_mem _
 exact key _ (Nat.le_refl _) hp
theorem roll_ok (M:Mem) (L:HL) (s:SStr) (hs:StOk M s) (hcap:s.len≤s.cap) (hz: ∀x∈s.xs,x.size<1000000):TrQ Tryz.prog 16 [s.v] M L (.int .i64 (if rollB s.xs=true then 0 else 2)):=by
 have hl:=hs.len
 have h6:=hs.2
 refine Tr.intro 33 Tryz.func16 rfl rfl Tryz.call16 rfl ?_;intro C hC hro
 repeat (first | refine yy ?_ | refine yx fun _=> ?_ | refine gc (containsS_ok _ _ s hs hz) ?_)
 have hf:((decide ((s.len:Int)≥1)&&decide ((s.len:Int)≤8))&& !s.xs.any badN)=fineB s.xs:=by
  rw [fineB,hl]
  congr 2 <;> simp
  all_goals omega
 refine run_cond (t:= !((decide ((s.len:Int)≥1)&&decide ((s.len:Int)≤8))&& !s.xs.any badN)) rfl (fun h=> ?_) (fun h=> ?_)
 ·have h0:rollB s.xs=false:=by rw [rollB,←hf];rw [Bool.not_eq_true'] at h;rw [h];rfl
  repeat (first | refine yy ?_ | refine yx fun _=> ?_)
  exact run_ret hC (rs:= [.cell 2 29]) rfl (rl tok rfl resN) (fun _ h=>h.drop) ⟨by rw [h0];rfl,rfl,rfl⟩
 have hfine:fineB s.xs=true:=by rw [←hf];simpa using h
 have hroll:rollB s.xs= !(prs s.xs).any likeB:=by rw [rollB,hfine];rfl
 clear h hf
 repeat (first | refine yy ?_ | refine yx fun _=> ?_ | (refine oc (ahead_ok _ _ s hs hcap) ?_;rintro _ M1 _ ⟨hM1,rfl,bt,rfl,hit⟩))
 rename_i b2
 have hmem:=fun p hp=>prs_mem (xs:=s.xs) (p:=p) hp
 generalize prs s.xs=E at hit hroll hmem
 refine run_rangeM hro rfl hit rfl (by intro x hx;obtain ⟨p,_,rfl⟩:=List.mem_map.1 hx;rfl)
  (fun k M' L'=>M1.le M'∧((E.take k).any likeB)=false∧L'=(b2,.cells ⟨[.int .i64 0]⟩ 29 (0,0))::L)
  (fun cd _ M' L'=>cd= .ret∧M1.le M'∧(E.any likeB)=true∧L'=(b2,.cells ⟨[.int .i64 2]⟩ 29 (0,0))::L)
  (fun k M2 M3 L2 h ⟨h1,h0,h2⟩=>⟨Mem.le_trans h1 h,h0,h2⟩) ?_ ?_ ?_ ?_
 ·exact ⟨Mem.le_refl _,rfl,rfl⟩
 ·rintro j x M2 _ R R' C' hx hM2 ⟨hM2',hno,rfl⟩ B
  obtain ⟨p,hp,rfl⟩: ∃p,E[j]? =some p∧prC p=x:=by simpa using hx
  obtain ⟨hp1,hp2⟩:=hmem p (List.mem_of_getElem? hp)
  simp only [List.cons_append]
  repeat (first | refine yy ?_ | refine yx fun _=> ?_)
  refine B.begin' ((b2,.cells ⟨[.int .i64 0]⟩ 29 (0,0))::L) rfl ?_
  simp only [List.cons_append]
  repeat (first | refine yy ?_ | refine yx fun _=> ?_ | refine gc (clash_ok _ _ p.1 p.2 (hz _ hp1) (hz _ hp2)) ?_)
  refine run_cond (t:=likeB p) (by show some (Value.bool _)=_;rw [bytes_beq];rfl) (fun hc=> ?_) (fun hc=> ?_)
  ·repeat (first | refine yy ?_ | refine yx fun _=> ?_)
   exact B.ret' (Mem.le_refl _) (fun _ h=>h) ⟨rfl,hM2',List.any_eq_true.2 ⟨p,List.mem_of_getElem? hp,hc⟩,rfl⟩
  ·repeat (first | refine yy ?_ | refine yx fun _=> ?_)
   exact B.fin' (L2:=(b2,.cells ⟨[.int .i64 0]⟩ 29 (0,0))::L) (Mem.le_refl _) (fun _ h=>h) ⟨hM2',by rw [List.take_add_one,hp,List.any_append,hno];simpa using hc,rfl⟩
 ·rintro D M2 _ hM2 ⟨hM2',hno,rfl⟩
  rw [List.length_map,List.take_length] at hno
  rw [hno] at hroll
  repeat (first | refine yy ?_ | refine yx fun _=> ?_)
  exact run_ret1 hC (by (repeat (first | with_reducible apply Upd.here | with_reducible apply Upd.there | with_reducible apply Upd.append_left))) (rs:= [.cell 2 29]) rfl (rl tok rfl resN) (fun _ h=>h.drop.drop.of_le (Mem.le_trans hM1 hM2)) ⟨by rw [hroll];rfl,rfl,rfl⟩
 ·rintro _ j D M2 _ hM2 ⟨rfl,hM2',hf,rfl⟩
  rw [hf] at hroll
  exact run_ret1 hC (by (repeat (first | with_reducible apply Upd.here | with_reducible apply Upd.there | with_reducible apply Upd.append_left))) (rs:= [.cell 2 29]) rfl (rl tok rfl resN) (fun _ h=>h.drop.drop.of_le (Mem.le_trans hM1 hM2)) ⟨by rw [hroll];rfl,rfl,rfl⟩
open Go.Chi Go.Lib
theorem ucaught_ok (M:Mem) (L:HL):TrQ Tryz.prog 31 [.iface 114 (.agg ⟨[]⟩)] M L (.bool true):=by
 refine Tr.intro 15 Tryz.func31 rfl rfl Tryz.call31 rfl ?_;intro C hC hro
 repeat (first | refine yy ?_ | refine yx fun _=> ?_ | refine vq ?_ (qt_eqNil (v:= .agg ⟨[]⟩) uAny rfl))
 refine run_cond rfl (fun h=>by cases h) (fun _=> ?_)
 repeat (first | refine yy ?_ | refine yx fun _=> ?_)
 refine run_cond rfl (fun h=>by cases h) (fun _=> ?_)
 repeat (first | refine yy ?_ | refine yx fun _=> ?_)
 exact run_ret hC (rs:= [.tmp 2]) rfl (resT rfl resN) (fun _ h=>h.drop) ⟨rfl,rfl,rfl⟩
theorem ucaught0_ok (M:Mem) (L:HL):TrQ Tryz.prog 31 [.nilIface] M L (.bool false):=by
 refine Tr.intro 15 Tryz.func31 rfl rfl Tryz.call31 rfl ?_;intro C hC hro
 repeat (first | refine yy ?_ | refine yx fun _=> ?_ | refine vq ?_ (qt_eqNil0 uAny rfl))
 refine run_cond rfl (fun _=> ?_) (fun h=>by cases h)
 repeat (first | refine yy ?_ | refine yx fun _=> ?_)
 exact run_ret hC (rs:= [.tmp 2]) rfl (resT rfl resN) (fun _ h=>h) ⟨rfl,rfl,rfl⟩
def can (a:Aa):Ax:=⟨a.do_,a.org,a.auditor,a.n,⟨none,a.gives.length,0,a.gives⟩,a.txn,a.yes,⟨none,a.steps.length,0,a.steps.map fun x=>⟨x.do_,x.a,x.b,x.c,x.n,x.text,⟨none,x.list.length,0,x.list⟩⟩⟩⟩
theorem can_aa (a:Aa):(can a).aa=a:=by
 show (⟨_,_,_,_,_,_,_,_⟩:Aa)=_
 rw [show (can a).steps.xs.map Sr.sp=a.steps by show (a.steps.map _).map Sr.sp=_;rw [List.map_map];exact List.map_id _]
 rfl
def chkS (a:Aa):Int:=chkA (can a)
theorem chkS_iff (a:Aa):chkS a=0↔AcP a:=by
 rw [chkS,chkA_iff rfl (by show (a.steps.map _).length=_;rw [List.length_map];rfl) (fun x hx=>by obtain ⟨y,_,rfl⟩:=List.mem_map.1 hx;rfl),can_aa]
theorem chkA_or (a:Ax):chkA a=0∨chkA a=2:=by
 unfold chkA
 split
 ·exact .inl rfl
 ·exact .inr rfl
theorem AxOk.chk {M:Mem} {a:Ax} (h:AxOk M a):chkA a=chkS a.aa:=by
 have h1:=chkA_iff h.gives.len h.steps.len (fun x hx=>(h.steps.each x hx).list.len)
 rw [←chkS_iff] at h1
 rcases chkA_or a with h2 | h2 <;> rcases chkA_or (can a.aa)with h3 | h3
 ·rw [h2,chkS,h3]
 ·rw [h2,chkS,h3] at h1;exact absurd (h1.1 rfl) (by decide)
 ·rw [h2,chkS,h3] at h1;exact absurd (h1.2 rfl) (by decide)
 ·rw [h2,chkS,h3]
def parseP (names:List ByteArray) (s:ByteArray):Option Aa:=(actO names s).bind fun x=>if x.2=⟨#[]⟩∧chkS x.1=0 then some x.1 else none
def zA:Aa:=⟨0,0,0,0,[],tz,false,[]⟩
def parseA (names:List ByteArray) (s:ByteArray):Aa×Int:=
 if rollB names=true then match parseP names s with
   | some a=>(a,0)
   | none=>(zA,7)
 else (zA,2)
theorem zA_ok (M:Mem):AxOk M ⟨0,0,0,0,noG,tz,false,noS⟩:=⟨MbOk.nil _,noS_ok _,fun _ h=>by cases h⟩
abbrev erN_ (b:Nat) (e:Int):Nat×Obj:=(b,.cells ⟨[.int .i64 e]⟩ 29 (0,0))
def prK (e:Aa×Int) (M:Mem) (L:HL) (v:Value) (M':Mem) (L':HL):Prop:=M.le M'∧L'=L∧ ∃ax:Ax,AxOk M' ax∧ax.aa=e.1∧v= .tuple ⟨[.agg ⟨axC ax⟩,.int .i64 e.2]⟩
theorem tparse_ok (M:Mem) (L:HL) (hG:G38 M) (S:SStr) (hS:StOk M S) (hcap:S.len≤S.cap) (hnz: ∀x∈S.xs,x.size<1000000) (s:ByteArray) (hs:s.size<1000000):Tr Tryz.prog 18 [S.v,.string s] M L (prK (parseA S.xs s) M L):=by
 refine TrE.tr (K:=fun en M' L'=> ∃v,en= .returned v∧prK (parseA S.xs s) M L v M' L') ?_ (fun e M' L' ⟨v,h1,h2⟩=>⟨v,h1,h2⟩)
 refine TrE.intro 30 Tryz.func18 rfl rfl Tryz.call18 rfl ?_;intro C hC hro
 repeat (first | refine yy ?_ | refine yx fun _=> ?_ | refine qc (roll_ok _ _ S hS hcap hnz) ?_)
 rename_i ba be
 refine run_cond (t:=(if rollB S.xs=true then (0:Int)else 2) !=0) rfl (fun h=> ?_) (fun h=> ?_)
 ·have hr: ¬rollB S.xs=true:=fun h0=>by rw [if_pos h0] at h;cases h
  repeat (first | refine yy ?_ | refine yx fun _=> ?_)
  refine run_retX hro ?_
  exact runX_ret hC (rs:= [.cell 4 28,.cell 5 29]) rfl (rl tok rfl (rl tok rfl resN)) (fun _ h=>h.drop.drop) ⟨_,rfl,Mem.le_refl _,rfl,_,zA_ok _,by rw [parseA,if_neg hr];rfl,by rw [parseA,if_neg hr];rfl⟩
 have hr:rollB S.xs=true:=by
  by_cases h0:rollB S.xs=true
  ·exact h0
  ·rw [if_neg h0] at h;cases h
 repeat (first | refine yy ?_ | refine yx fun _=> ?_)
 have hthrow: ∀(M1:Mem) (s':ByteArray) (ax:Ax) (br:Nat),M.le M1→parseA S.xs s=(zA,7)→RunX Tryz.prog C 30 (.panicking panT) [⟨.fn (.func 52) ⟨[pt ba,pt be]⟩,#[]⟩] [(5,pt be),(4,pt ba)] M1 (erB br S.v s'::erN_ be 0::acB ba ax::L):=by
  intro M1 s' ax br hM1 hno
  refine runX_defer (args:= [pt ba,pt be]) 5 (by simp) Tryz.func52 rfl rfl Tryz.call52 rfl rfl ?_
  intro a0 k0 q1 q2 q3
  refine run_seq ?_
  refine run_region ?_
  refine runL_recover rfl rfl rfl ?_
  refine qc (ucaught_ok _ _) ?_
  repeat (first | refine yy ?_ | refine yx fun _=> ?_)
  refine run_cond rfl (fun _=> ?_) (fun h=>by cases h)
  repeat (first | refine yy ?_ | refine yx fun _=> ?_)
  refine run_endX rfl ?_
  refine runX_dret Tryz.func52 rfl q1 q2 q3 ?_
  show RunX _ _ _ .returning _ _ _ _
  exact runX_ret hC (rs:= [.cell 4 28,.cell 5 29]) rfl (rl tok rfl (rl tok rfl resN)) (fun _ h=>h.drop.drop.drop) ⟨_,rfl,hM1,rfl,_,zA_ok _,by rw [hno];rfl,by rw [hno];rfl⟩
 refine runL_defer hro rfl rfl ?_
 repeat (first | refine yy ?_ | refine yx fun _=> ?_)
 rename_i br
 have hap:=act_ok M (erN_ be 0::acB ba ⟨0,0,0,0,noG,tz,false,noS⟩::L) hG br S hS s hs
 refine ec hap ?_ ?_
 rotate_left
 ·rintro ch M1 _ ⟨hM1,hv⟩
  split at hv
  ·obtain ⟨_,_,_,hv,_⟩:=hv;cases hv
  rename_i hp
  obtain ⟨hv,s',rfl⟩:=hv
  cases hv
  exact runX_sub (hthrow M1 s' _ br hM1 (by rw [parseA,if_pos hr,parseP,hp];rfl)) ⟨rfl,rfl,trivial⟩
 rintro v M1 _ ⟨hM1,hv⟩
 split at hv
 rotate_left
 ·cases hv.1
 rename_i x hp
 obtain ⟨ax,hax,haa,hv,rfl⟩:=hv
 cases hv
 have hck:=hax.chk
 rw [haa] at hck
 have hpp:parseP S.xs s=if x.2=⟨#[]⟩∧chkS x.1=0 then some x.1 else none:=by rw [parseP,hp];rfl
 have hq:((x.2.toList==(⟨#[]⟩:ByteArray).toList)&&(chkA ax==0))=true↔(x.2=⟨#[]⟩∧chkS x.1=0):=by
  rw [bytes_beq,hck]
  simp
 repeat (first | refine yy ?_ | refine gc (scheck_ok _ _ ax hax) ?_)
 refine umR (b:=(x.2.toList==(⟨#[]⟩:ByteArray).toList)&&(chkA ax==0)) (fun h=> ?_) (fun h=> ?_)
 rotate_left
 ·exact runX_sub (hthrow M1 _ ax br hM1 (by rw [parseA,if_pos hr,hpp,if_neg (fun h0=>by rw [hq.2 h0] at h;cases h)])) ⟨rfl,rfl,trivial⟩
 have hpe:parseA S.xs s=(x.1,0):=by rw [parseA,if_pos hr,hpp,if_pos (hq.1 h)]
 repeat (first | refine yy ?_ | refine yx fun _=> ?_)
 refine run_retX hro ?_
 refine runX_sub (σ':= [(5,pt be),(4,pt ba)]) ?_ ⟨rfl,rfl,trivial⟩
 refine runX_defer (args:= [pt ba,pt be]) 5 (by simp) Tryz.func52 rfl rfl Tryz.call52 rfl rfl ?_
 intro a0 k0 q1 q2 q3
 refine run_seq ?_
 refine run_region ?_
 refine runL_recover0 rfl rfl rfl ?_
 refine qc (ucaught0_ok _ _) ?_
 repeat (first | refine yy ?_ | refine yx fun _=> ?_)
 refine run_cond rfl (fun h=>by cases h) (fun _=> ?_)
 repeat (first | refine yy ?_ | refine yx fun _=> ?_)
 refine run_endX rfl ?_
 refine runX_dret Tryz.func52 rfl q1 q2 q3 ?_
 show RunX _ _ _ .returning _ _ _ _
 exact runX_ret hC (rs:= [.cell 4 28,.cell 5 29]) rfl (rl tok rfl (rl tok rfl resN)) (fun _ h=>h.drop.drop.drop) ⟨_,rfl,hM1,rfl,ax,hax,by rw [hpe,haa],by rw [hpe];rfl⟩
end Go.Proofs.YtladcmfbkiogbaaGreatDoor
namespace Go.Chi
section
variable {P:Program} {T:TT} {ro:Option Nat} {σ:Env} {δ:Den} {cur:Path} {M:Mem} {L:HL} {d:Option Nat} {ty:TypeId} {pos:String} {aft:Array Edge} {g:Option (Nat×Bool)} {v:Value}
theorem qt_toUnsafeO (hT:TOk P T) {x:Operand} {src dst t e b sz k:Nat} {cs:List Value} {fz:Nat×Nat} (hs:und T src=some (.pointer t)) (hd:und T dst=some .unsafePointer) (ht:sizeT T t=some sz) (hsz:Nat.beq sz 0=false)
 (hx:ev σ δ cur x=some (.pointer (some ⟨b,k,none⟩))) (hm:(b,Obj.cells ⟨cs⟩ e fz)∈L) (h0:Nat.blt k cs.length=true):Qt P ro ⟨d,.convert src dst x,ty,pos,aft,g⟩ σ δ cur M L (.pointer (some ⟨b,k,none⟩)):=
 qt_of_run (semAt_of (by intro c e;cases e)) fun a' w hse hcur hp=>by
  have hex:=ev_sound hse hcur hx
  obtain ⟨i,hi,rfl⟩:=sizeT_ok ht
  have hb:w.heap[b]? =some (.cells ⟨cs⟩ e fz):=hp.own _ hm
  have:=Lib.run_to_unsafe (P:=P) w ⟨b,k,none⟩ (und_ok hT hs) (und_ok hT hd) (hT.info _ _ hi) (by intro h;rw [h] at hsz;cases hsz) (show w.shape? b=some (e,cs.length) by simp [World.shape?,hb]) (by simpa using h0)
  simp only [execOp,Sem.run_bind,Sem.run_pure,Result.andThen_ok,hex,this]
theorem qt_fromUnsafeO (hT:TOk P T) {x:Operand} {src dst u e b sz k:Nat} {cs:List Value} {fz:Nat×Nat} (hs:und T src=some .unsafePointer) (hd:und T dst=some (.pointer u)) (hu:sizeT T u=some sz)
 (hx:ev σ δ cur x=some (.pointer (some ⟨b,k,none⟩))) (hm:(b,Obj.cells ⟨cs⟩ e fz)∈L) (hl:liesAt P P.depth e (cs.length/P.cellsOf e) k u 1=true):Qt P ro ⟨d,.convert src dst x,ty,pos,aft,g⟩ σ δ cur M L (.pointer (some ⟨b,k,none⟩)):=
 qt_of_run (semAt_of (by intro c e;cases e)) fun a' w hse hcur hp=>by
  have hex:=ev_sound hse hcur hx
  obtain ⟨i,hi,_⟩:=sizeT_ok hu
  have hb:w.heap[b]? =some (.cells ⟨cs⟩ e fz):=hp.own _ hm
  have:=Lib.run_from_unsafe (P:=P) w ⟨b,k,none⟩ (und_ok hT hs) (und_ok hT hd) (hT.info _ _ hi) (show w.shape? b=some (e,cs.length) by simp [World.shape?,hb]) hl
  simp only [execOp,Sem.run_bind,Sem.run_pure,Result.andThen_ok,hex,this]
end
end Go.Chi
namespace Go.Proofs.YtladcmfbkiogbaaGreatDoor
open Go.Chi Go.Lib
set_option maxRecDepth 10000
abbrev pt1 (b:Nat):Value:= .pointer (some ⟨b,1,none⟩)
abbrev voO (nv p v:Value):Obj:= .cells ⟨[nv,p,v]⟩ 70 (0,0)
theorem vCheck_ok (M:Mem) (L L':HL) (b:Nat) (nv p v:Value) (hp:p= .pointer none∨p=pt1 b) (hu:Upd L b (voO nv p v) (voO nv (pt1 b) v) L'):
 Tr Tryz.prog 108 [pt1 b] M L (fun _ M' L1=>M=M'∧L1=L'):=by
 refine Tr.intro 20 Tryz.func108 rfl rfl Tryz.call108 rfl ?_;intro C hC hro
 rcases hp with rfl | rfl
 ·repeat (first | refine zz ?_ | refine zx fun _=> ?_ | refine rq (qt_ld tok rfl hu.mem rfl) ?_)
  refine run_cond rfl (fun _=> ?_) (fun h=>by cases h)
  repeat (first | refine zz ?_ | refine zx fun _=> ?_ | refine rq (qt_toUnsafeO tok rfl rfl rfl rfl rfl hu.mem rfl) ?_ | refine rq (qt_callX Tryz.func135 (by kernel_rfl) (by kernel_rfl) (by kernel_rfl) (e:=Extern.AbiNoEscape.same) (by kernel_rfl) rfl (fun w=>rfl)) ?_ | refine rq (qt_fromUnsafeO tok rfl rfl rfl rfl hu.mem (by kernel_rfl)) ?_ | refine ws ?_ rfl rfl rfl rfl rfl hu rfl)
  exact run_end hC rfl (vs:= []) trivial (fun _ h=>h) ⟨rfl,rfl⟩
 ·have hl:L'=L:=by
   obtain ⟨A,B,rfl,rfl⟩:=hu;rfl
  subst hl
  repeat (first | refine zz ?_ | refine zx fun _=> ?_ | refine rq (qt_ld tok rfl hu.mem rfl) ?_)
  refine run_cond rfl (fun h=>by cases h) (fun _=> ?_)
  repeat (first | refine zz ?_ | refine zx fun _=> ?_ | refine rq (qt_ld tok rfl hu.mem rfl) ?_ | refine rq (qt_neqPtr tok rfl rfl rfl rfl) ?_)
  refine run_cond rfl (fun h=>by cases h) (fun _=> ?_)
  repeat (first | refine zz ?_ | refine zx fun _=> ?_)
  exact run_end hC rfl (vs:= []) trivial (fun _ h=>h) ⟨rfl,rfl⟩
theorem vWrite1_ok (M:Mem) (R N:HL) (b:Nat) (nv p v:Value) (l:List UInt8) (s:ByteArray) (hp:p= .pointer none∨p=pt1 b) (hO:BdS v l N) (hz:l.length+s.size<1099511627776):
 Tr Tryz.prog 59 [pt1 b,.string s] M ((b,voO nv p v)::(N++R)) (fun _ M' L1=>M=M'∧ ∃v' N',L1=N'++((b,voO nv (pt1 b) v')::R)∧BdS v' (l++s.data.toList) N'):=by
 unfold BdS at hO
 obtain ⟨av,cv,rfl⟩:=osH hO
 refine Tr.intro 19 Tryz.func59 rfl rfl Tryz.call59 rfl ?_;intro C hC hro
 repeat (first | refine zz ?_ | refine zx fun _=> ?_ | (refine ro (st_callF rfl (fun _=>vCheck_ok _ _ _ b nv p _ hp (Upd.here _ _ _ _))) ?_;rintro _ _ _ ⟨rfl,rfl⟩) | (refine ro (st_appendS (n:=l.length) (str:=s) tok rfl rfl rfl rfl rfl rfl rfl rfl rfl rfl (List.perm_middle (l₁:=N)).symm hO (by omega) (by omega)) ?_;rintro va _ _ ⟨N',rfl,rfl,hO'⟩;obtain ⟨a2,c2,rfl⟩:=osH hO'))
 exact run_ret hC (rs:= [.tmp 4,.tmp 5]) rfl (resT rfl (resT rfl resN)) (fun _ h=>h) ⟨rfl,_,N',rfl,by
  unfold BdS
  rw [show bC (l++s.data.toList)=bC l++bC s.data.toList by unfold bC;rw [List.map_append],List.length_append]
  simpa using hO'⟩
def VoAt (b:Nat) (nv:Value) (l:List UInt8) (R L:HL):Prop:= ∃p v N,(p= .pointer none∨p=pt1 b)∧L.Perm (N++(b,voO nv p v)::R)∧BdS v l N
theorem VoAt.cons {b:Nat} {nv:Value} {l:List UInt8} {R L:HL} (q:Nat×Obj) (h:VoAt b nv l R L):VoAt b nv l (q::R) (q::L):=by
 obtain ⟨p,v,N,hp,hL,hO⟩:=h
 exact ⟨p,v,N,hp,(hL.cons q).trans (List.perm_middle.symm.trans ((List.Perm.refl N).append (List.Perm.swap _ _ _))),hO⟩
theorem VoAt.drop {b:Nat} {nv:Value} {l:List UInt8} {R L:HL} {q:Nat×Obj} (h:VoAt b nv l (q::R) L): ∃L',(∀M w,Hp M L w→Hp M L' w)∧VoAt b nv l R L':=by
 obtain ⟨p,v,N,hp,hL,hO⟩:=h
 refine ⟨N++(b,voO nv p v)::R,fun M w hw=> ?_,p,v,N,hp,List.Perm.refl _,hO⟩
 exact (hw.perm (hL.trans (((List.Perm.refl N).append (List.Perm.swap _ _ _)).trans List.perm_middle))).drop
theorem VoAt.memR {b:Nat} {nv:Value} {l:List UInt8} {R L:HL} {x:Nat×Obj} (h:VoAt b nv l R L) (hx:x∈R):x∈L:=by
 obtain ⟨p,v,N,hp,hL,hO⟩:=h
 exact hL.mem_iff.2 (List.mem_append_right _ (List.mem_cons_of_mem _ hx))
theorem VoAt.mem {b:Nat} {nv:Value} {l:List UInt8} {R L:HL} (h:VoAt b nv l R L): ∃p v,(b,voO nv p v)∈L:=by
 obtain ⟨p,v,N,hp,hL,hO⟩:=h
 exact ⟨p,v,hL.mem_iff.2 (List.mem_append_right _ List.mem_cons_self)⟩
theorem VoAt.upd {b:Nat} {nv:Value} {l:List UInt8} {A R L:HL} {k:Nat} {o:Obj} (o':Obj) (h:VoAt b nv l (A++(k,o)::R) L): ∃L',Upd L k o o' L'∧VoAt b nv l (A++(k,o')::R) L':=by
 obtain ⟨p,v,N,hp,hL,hO⟩:=h
 obtain ⟨X,Y,rfl⟩:=List.append_of_mem (hL.mem_iff.2 (List.mem_append_right _ (List.mem_cons_of_mem _ (List.mem_append_right _ List.mem_cons_self))))
 refine ⟨X++(k,o')::Y,⟨X,Y,rfl,rfl⟩,p,v,N,hp, ?_,hO⟩
 have h1:(X++Y).Perm (N++(b,voO nv p v)::(A++R)):=by
  refine List.Perm.cons_inv (a:=(k,o)) (List.perm_middle.symm.trans (hL.trans ?_))
  refine (List.Perm.append_left N ((List.perm_middle (l₁:=A)).cons _)).trans ?_
  exact (List.Perm.append_left N (List.Perm.swap _ _ _)).trans List.perm_middle
 refine List.perm_middle.trans ((h1.cons (k,o')).trans ?_)
 refine List.perm_middle.symm.trans ?_
 exact (List.Perm.append_left N (List.Perm.swap _ _ _)).trans (List.Perm.append_left N ((List.perm_middle (l₁:=A)).symm.cons _))
theorem vWrite_ok (M:Mem) (L R:HL) (b:Nat) (nv:Value) (l:List UInt8) (s:ByteArray) (h:VoAt b nv l R L) (hz:l.length+s.size<1099511627776):
 Tr Tryz.prog 59 [pt1 b,.string s] M L (fun _ M' L'=>M=M'∧VoAt b nv (l++s.data.toList) R L'):=by
 obtain ⟨p,v,N,hp,hL,hO⟩:=h
 refine Tr.perm (vWrite1_ok M R N b nv p v l s hp hO hz) (hL.trans List.perm_middle) ?_
 rintro _ _ _ ⟨rfl,v',N',rfl,hO'⟩
 exact ⟨_,List.Perm.refl _,rfl,pt1 b,v',N',.inr rfl,List.Perm.refl _,hO'⟩
theorem take_cat {xs:List ByteArray} {j:Nat} {x:ByteArray} (h:xs[j]? =some x):(cat (xs.take (j+1))).data.toList=(cat (xs.take j)).data.toList++x.data.toList:=by
 rw [take_snoc h,cat_app]
 simp [cat]
theorem say_ok (M:Mem) (L R:HL) (bv ba:Nat) (nv:Value) (l:List UInt8) (xs:List ByteArray) (cs:List Value) (n:Nat) (hcs:cs=xs.map Value.string) (hn:xs.length=n) (h6:n<1000000) (h:VoAt bv nv l R L) (hz:l.length+(cat xs).size<1099511627776):
 Tr Tryz.prog 34 [pt bv,.slice (some ⟨ba,0,none⟩) n n] M ((ba,.cells ⟨cs⟩ 9 (0,0))::L) (fun _ M' L'=>M.le M'∧VoAt bv nv (l++(cat xs).data.toList) R L'):=by
 subst hcs hn
 refine Tr.intro 18 Tryz.func34 rfl rfl Tryz.call34 rfl ?_;intro C hC hro
 refine run_frzL [_] fun M1 hM1 hb=> ?_
 have hsl:=SlM.ofBlk (size:=1) (ls:=xs.map stC) (hb _ List.mem_cons_self) (strs_flat xs) (fun l hl=>by obtain ⟨x,_,rfl⟩:=List.mem_map.1 hl;rfl)
 rw [List.length_map] at hsl
 repeat (first | refine yy ?_ | refine yx fun _=> ?_)
 refine run_loopN (fun j σ1 M2 L2=>j≤xs.length∧M1=M2∧VoAt bv nv (l++(cat (xs.take j)).data.toList) R L2∧σ1= [(8,iv j),(7,iv xs.length),(6,.slice (some ⟨ba,0,none⟩) xs.length xs.length),(0,pt bv)]) xs.length [(8,iv 0),(7,iv xs.length),(6,.slice (some ⟨ba,0,none⟩) xs.length xs.length),(0,pt bv)] ?_ ⟨Nat.zero_le _,rfl,by simpa [cat] using h,rfl⟩ (fun j _ _ _ h=>h.1) ?_
 ·exact ⟨rfl,rfl,rfl,rfl,trivial⟩
 rintro j _ _ L2 ⟨hj,rfl,hB,rfl⟩ hnext
 repeat (first | refine yy ?_ | refine yx fun _=> ?_)
 refine run_cond (t:=decide ((j:Int)<(xs.length:Int))) rfl (fun h2=> ?_) (fun h2=> ?_)
 ·have hlt:j<xs.length:=by have:=of_decide_eq_true h2;omega
  obtain ⟨b,off,x,hba,hx,hc⟩:=SStr.at_ hsl hlt
  cases hba
  have hcj:=take_cat hx
  have hle:=cat_take_le xs (j+1)
  have hl2:=congrArg List.length hcj
  rw [List.length_append,ba_len,ba_len,ba_len] at hl2
  repeat (first | refine yy ?_ | refine yx fun _=> ?_)
  refine oc (vWrite_ok _ _ R bv nv _ x hB (by rw [List.length_append,ba_len];omega)) ?_
  rintro _ _ L3 ⟨rfl,hB3⟩
  repeat (first | refine yy ?_ | refine yx fun _=> ?_)
  exact run_sub' (hnext _ _ _ ⟨hlt,rfl,by rw [hcj,←List.append_assoc];exact hB3,rfl⟩) ⟨lk_succ rfl (by omega),rfl,rfl,rfl,trivial⟩
 ·have hge:j=xs.length:=by have:=of_decide_eq_false h2;omega
  subst hge
  rw [List.take_length] at hB
  repeat (first | refine yy ?_ | refine yx fun _=> ?_)
  exact run_end hC rfl (vs:= []) trivial (fun _ h=>h) ⟨hM1,hB⟩
def vK (bv:Nat) (nv:Value) (l:List UInt8) (R:HL) (M:Mem) (o:Option ByteArray) (en:Ending) (M':Mem) (L':HL):Prop:=
 M.le M'∧match o with
  | some t=>en= .returned (.tuple ⟨[]⟩)∧VoAt bv nv (l++t.data.toList) R L'
  | none=>en= .panicked panT∧ ∃N,L'.Perm (N++R)
theorem vR {bv:Nat} {nv:Value} {l:List UInt8} {C:Cx} {n:Nat} {ops:Array Oper} {rest:List Oper} {k:List Item} {ds:List Deferred} {σ:Env} {δ:Den} {M:Mem} {L R:HL} {o:Option ByteArray} {g:FuncId} {vs:List Value} {d:Nat} {ty:TypeId} {pos:String} {aft:Array Edge} {args:Array Operand} {tys:Array TypeId}
 (ht:TrE Tryz.prog g vs M L (vK bv nv l R M o)) (h: ∀t M' L',o=some t→M.le M'→VoAt bv nv (l++t.data.toList) R L'→RunL Tryz.prog C n ops rest k ds ((d,.tuple ⟨[]⟩)::σ) δ M' L') (hp:o=none→ ∀M' L' N,M.le M'→L'.Perm (N++R)→RunX Tryz.prog C n (.panicking panT) ds σ M' L') (ha:evs σ δ [] args.toList=some vs:=by exact rfl) (hd:Nat.blt d n=true:=by exact rfl) (hn:lkd δ d=none:=by exact rfl) (hu:unNamed δ d=true:=by exact rfl):
 RunL Tryz.prog C n ops (⟨some d,.call ⟨.value (.func g),args,tys⟩,ty,pos,aft,none⟩::rest) k ds σ δ M L:=by
 refine ec ht ?_ ?_ ha hd hn hu
 ·rintro v M' L' ⟨hM,hv⟩
  cases o with
  | none=>cases hv.1
  | some t=>obtain ⟨hv,hB⟩:=hv;cases hv;exact h t M' L' rfl hM hB
 ·rintro ch M' L' ⟨hM,hv⟩
  cases o with
  | none=>obtain ⟨hv,N,hN⟩:=hv;cases hv;exact hp rfl M' L' N hM hN
  | some t=>cases hv.1
theorem cat1 (x:ByteArray):(cat [x]).data.toList=x.data.toList:=by simp [cat]
theorem cat1s (x:ByteArray):(cat [x]).size=x.size:=by simp only [cat,app_size];rfl
theorem say1_ok (M:Mem) (L R:HL) (bv ba:Nat) (nv:Value) (l:List UInt8) (x:ByteArray) (h:VoAt bv nv l R L) (hz:l.length+x.size<1099511627776):
 Tr Tryz.prog 34 [pt bv,.slice (some ⟨ba,0,none⟩) 1 1] M ((ba,.cells ⟨[.string x]⟩ 9 (0,0))::L) (fun _ M' L'=>M.le M'∧VoAt bv nv (l++x.data.toList) R L'):=by
 have:=say_ok M L R bv ba nv l [x] _ 1 rfl rfl (by decide) h (by rw [cat1s];exact hz)
 rwa [cat1] at this
theorem panN {L N R:HL} {q:Nat×Obj} (h:L.Perm (N++q::R)):L.Perm ((N++ [q])++R):=by rwa [List.append_assoc]
def orgV (names:List ByteArray) (k:Nat):Option ByteArray:=names[k]?
theorem vorg_ok (M:Mem) (L R:HL) (bv:Nat) (l:List UInt8) (S:SStr) (hS:StOk M S) (k:Nat) (h:VoAt bv S.v l R L) (hz: ∀x∈S.xs,l.length+x.size<1099511627776):
 TrE Tryz.prog 33 [pt bv,iv k] M L (vK bv S.v l R M (orgV S.xs k)):=by
 obtain ⟨p,v,hm⟩:=h.mem
 have hl:=hS.len
 refine TrE.intro 22 Tryz.func33 rfl rfl Tryz.call33 rfl ?_;intro C hC hro
 repeat (first | refine zc ?_ | refine vq ?_)
 refine umR (b:=decide ((k:Int)<(S.len:Int))) (fun h1=> ?_) (fun h1=> ?_)
 rotate_left
 ·have hlt: ¬k<S.len:=by have:=of_decide_eq_false h1;omega
  obtain ⟨p',v',N,_,hL,_⟩:=h
  exact runX_pan hC (fun _ h=>h) ⟨Mem.le_refl _,by rw [orgV,List.getElem?_eq_none (by omega)];exact ⟨rfl,_,panN hL⟩⟩
 have hlt:k<S.len:=by have:=of_decide_eq_true h1;omega
 obtain ⟨b,off,x,ha,hx,hc⟩:=SStr.at_ hS.1 hlt
 have hv:S.v= .slice (some ⟨b,off,none⟩) S.len S.cap:=by rw [←ha];rfl
 iterate 6 refine yy ?_
 refine vq ?_ (hst:=qt_ld tok rfl hm (congrArg some hv))
 repeat (first | refine yy ?_ | refine yx fun _=> ?_)
 refine oc (say1_ok _ _ R bv _ _ l x h (hz x (List.mem_of_getElem? hx))) ?_
 rintro _ M1 L1 ⟨hM1,hB1⟩
 repeat (first | refine yy ?_ | refine yx fun _=> ?_)
 refine run_endX hro ?_
 exact runX_ret hC (rs:= []) rfl (vs:= []) trivial (fun _ h=>h) ⟨hM1,by rw [orgV,hx];exact ⟨rfl,hB1⟩⟩
theorem dec_le: ∀(k u:Nat),u<10^(k+1)→(decDigits u).length≤k+1
 | 0,u,h=>by
   rw [decDigits,dif_pos (by omega)];exact Nat.le_refl _
 | k+1,u,h=>by
   rw [decDigits]
   split
   ·simp
   ·have:=dec_le k (u/10) (by rw [Nat.pow_succ] at h;omega)
    rw [List.length_append,List.length_singleton];omega
def dgB (n:Int):ByteArray:=bs (decDigits n.toNat)
theorem dgB_sz {n:Int} (h:n≤9223372036854775807):(dgB n).size≤19:=by
 rw [←ba_len]
 exact dec_le 18 _ (by omega)
theorem vnum_ok (M:Mem) (L R:HL) (hG:G38 M) (bv:Nat) (nv:Value) (l:List UInt8) (n:Int) (h0:0≤n) (h1:n≤9223372036854775807) (h:VoAt bv nv l R L) (hz:l.length+19<1099511627776):
 Tr Tryz.prog 112 [pt bv,.int .i64 n] M L (fun _ M' L'=>M.le M'∧VoAt bv nv (l++(dgB n).data.toList) R L'):=by
 have hd:=dgB_sz h1
 have hi:=itoa_ok M L n.toNat (by omega) hG
 rw [Int.toNat_of_nonneg h0] at hi
 refine Tr.intro 9 Tryz.func112 rfl rfl Tryz.call112 rfl ?_;intro C hC hro
 repeat (first | refine zc ?_ | refine vq ?_)
 refine qc hi ?_
 repeat (first | refine yy ?_ | refine yx fun _=> ?_)
 refine oc (say1_ok _ _ R bv _ _ l (dgB n) h (by omega)) ?_
 rintro _ M1 L1 ⟨hM1,hB1⟩
 repeat (first | refine yy ?_ | refine yx fun _=> ?_)
 exact run_end hC rfl (vs:= []) trivial (fun _ h=>h) ⟨hM1,hB1⟩
def termV (t:ByteArray):Option ByteArray:=if (lineE t).2=0 then some (lineE t).1 else none
theorem termV_sz {t x:ByteArray} (ht:t.size<1000000) (h:termV t=some x):x.size≤1376256:=by
 unfold termV at h
 split at h
 ·cases h
  unfold lineE
  split
  ·rename_i h0
   obtain ⟨hT,hz2⟩:=(mayB_iff (by omega)).1 h0
   have:=line_size 16 (Nat.le_refl _) t hT (by omega)
   show (lineB 16 t).size≤_;omega
  ·exact Nat.zero_le _
 ·cases h
theorem vterm_ok (M:Mem) (L R:HL) (bv:Nat) (nv:Value) (l:List UInt8) (t:ByteArray) (ht:t.size<1000000) (h:VoAt bv nv l R L) (hz:l.length+1376256<1099511627776):
 TrE Tryz.prog 111 [pt bv,.string t] M L (vK bv nv l R M (termV t)):=by
 refine TrE.intro 18 Tryz.func111 rfl rfl Tryz.call111 rfl ?_;intro C hC hro
 repeat (first | refine zc ?_ | refine vq ?_)
 refine qc (sline_ok _ _ t ht) ?_
 repeat (first | refine zc ?_ | refine vq ?_)
 refine umR (b:=(lineE t).2==0) (fun h1=> ?_) (fun h1=> ?_)
 rotate_left
 ·obtain ⟨p',v',N,_,hL,_⟩:=h
  exact runX_pan hC (fun _ h=>h) ⟨Mem.le_refl _,by rw [termV,if_neg (by simpa using h1)];exact ⟨rfl,_,panN hL⟩⟩
 have ht1:termV t=some (lineE t).1:=by rw [termV,if_pos (by simpa using h1)]
 have hts:=termV_sz ht ht1
 repeat (first | refine yy ?_ | refine yx fun _=> ?_)
 refine oc (say1_ok _ _ R bv _ _ l (lineE t).1 h (by omega)) ?_
 rintro _ M1 L1 ⟨hM1,hB1⟩
 repeat (first | refine yy ?_ | refine yx fun _=> ?_)
 refine run_endX hro ?_
 exact runX_ret hC (rs:= []) rfl (vs:= []) trivial (fun _ h=>h) ⟨hM1,by rw [ht1];exact ⟨rfl,hB1⟩⟩
def txnV (names:List ByteArray) (t:Tx):Option ByteArray:=(orgV names t.coord.toNat).map fun o=>o++(((slB++dgB t.epoch)++slB)++dgB t.seq)
theorem vtxn_ok (M:Mem) (L R:HL) (hG:G38 M) (bv:Nat) (l:List UInt8) (S:SStr) (hS:StOk M S) (t:Tx) (h0:0≤t.coord) (h1:0≤t.epoch∧t.epoch≤9223372036854775807) (h2:0≤t.seq∧t.seq≤9223372036854775807) (h:VoAt bv S.v l R L) (hz: ∀x∈S.xs,l.length+x.size+100<1099511627776):
 TrE Tryz.prog 43 [pt bv,.agg ⟨txC t⟩] M L (vK bv S.v l R M (txnV S.xs t)):=by
 have hd1:=dgB_sz h1.2
 have hd2:=dgB_sz h2.2
 refine TrE.intro 17 Tryz.func43 rfl rfl Tryz.call43 rfl ?_;intro C hC hro
 repeat (first | refine yy ?_ | refine yx fun _=> ?_)
 rename_i b3
 have hB:=h.cons (b3,.cells ⟨txC t⟩ 25 (0,0))
 refine runL_as 6 (iv t.coord.toNat) rfl (by congr 1;exact (Int.toNat_of_nonneg h0).symm) ?_
 refine vR (vorg_ok _ _ _ bv l S hS t.coord.toNat hB (fun x hx=>by have:=hz x hx;omega)) (fun o M1 L1 ho hM1 hB1=> ?_) (fun ho M1 L1 N hM1 hN=> ?_)
 rotate_left
 ·exact runX_pan hC (fun _ h=>h) ⟨hM1,by rw [txnV,ho];exact ⟨rfl,_,panN hN⟩⟩
 have hzo:=hz o (List.mem_of_getElem? ho)
 have hG1:=hG.le hM1
 have hm:=hB1.memR List.mem_cons_self
 have hi1:=itoa_ok M1 L1 t.epoch.toNat (by omega) hG1
 rw [Int.toNat_of_nonneg h1.1] at hi1
 have hi2:=itoa_ok M1 L1 t.seq.toNat (by omega) hG1
 rw [Int.toNat_of_nonneg h2.1] at hi2
 repeat (first | refine yy ?_ | refine dd ?_ | refine yd ?_ | refine yx fun _=> ?_)
 refine pc hi1 ?_
 repeat (first | refine yy ?_ | refine dd ?_ | refine yd ?_ | refine yx fun _=> ?_)
 refine pc hi2 ?_
 repeat (first | refine yy ?_ | refine dd ?_ | refine yd ?_ | refine yx fun _=> ?_)
 have hcs:(cat [slB,dgB t.epoch,slB,dgB t.seq]).data.toList=((((slB++dgB t.epoch)++slB)++dgB t.seq)).data.toList:=by simp [cat]
 have hcz:(cat [slB,dgB t.epoch,slB,dgB t.seq]).size≤40:=by
  have h1:slB.size=1:=rfl
  simp only [cat,app_size];rw [h1];show _+(_+(_+(_+0)))≤_;omega
 refine pec (say_ok _ _ _ bv _ _ _ [slB,dgB t.epoch,slB,dgB t.seq] _ 4 rfl rfl (by decide) hB1 (by rw [List.length_append,ba_len];omega)) ?_
 rintro _ M2 L2 ⟨hM2,hB2⟩
 repeat (first | refine yy ?_ | refine dd ?_ | refine yd ?_ | refine yx fun _=> ?_)
 obtain ⟨L3,hL3,hB3⟩:=hB2.drop
 refine run_endX hro ?_
 refine runX_ret hC (rs:= []) rfl (vs:= []) trivial (hL3 _) ⟨Mem.le_trans hM1 hM2, ?_⟩
 rw [txnV,ho]
 refine ⟨rfl, ?_⟩
 rw [hcs,List.append_assoc] at hB3
 show VoAt bv S.v (l++(o++_).data.toList) R L3
 simpa using hB3
def getF (x:Sp) (o:Nat):Int:=if o=1 then x.a else if o=2 then x.b else if o=3 then x.c else x.n
def fsB (x:Sp):List Nat→ByteArray
 | []=>⟨#[]⟩
 | o::os=>(sp1++dgB (getF x o))++fsB x os
def rwB:List Int→ByteArray
 | []=>⟨#[]⟩
 | v::l=>(sp1++dgB v)++rwB l
def brF (x:Sp):List Nat→Sp→Sp
 | [],b=>b
 | o::os,b=>brF x os (setF b o (getF x o))
def bareN (x:Sp):Sp:=brF x (kO x.do_) (sp0 x.do_)
def bareS (x:Sp):Bool:=((((((bareN x).a==x.a)&&((bareN x).b==x.b))&&((bareN x).c==x.c))&&((bareN x).n==x.n))&&(decide (x.do_=2)||decide (x.text=⟨#[]⟩)))&&(decide (x.do_=6)||decide (x.list= []))
def tailV (x:Sp):Option ByteArray:=if x.do_=2 then (termV (dataE x.text).1).map fun t=>sp1++t else if x.do_=6 then some (rwB x.list)else some ⟨#[]⟩
def stepV (x:Sp):Option ByteArray:=(tailV x).bind fun t=>if bareS x=true then some ((kW x.do_++fsB x (kO x.do_))++t)else none
theorem setF_setI {x:Sp} {o:Nat} (v:Int) (lv:Value) (h:o=1∨o=2∨o=3∨o=4):setE (spC x lv) o (cellsL (.int .i64 v))=some (spC (setF x o v) lv):=by
 rcases h with rfl | rfl | rfl | rfl <;> rfl
theorem getF_ld {x:Sp} {o:Nat} (lv:Value) (h:o=1∨o=2∨o=3∨o=4):ldE tt 3 (spC x lv) o=some (.int .i64 (getF x o)):=by
 rcases h with rfl | rfl | rfl | rfl <;> rfl
theorem getF_set (x:Sp) (v:Int) {o:Nat} (h:o=1∨o=2∨o=3∨o=4):getF (setF x o v) o=v:=by
 rcases h with rfl | rfl | rfl | rfl <;> rfl
theorem getF_nm {x:Sp} (h:SpP x) (o:Nat):0≤getF x o∧getF x o≤2147483647:=by
 have h1:=h.a
 have h2:=h.b
 have h3:=h.c
 have h4:=h.n
 simp only [nmW,Bool.and_eq_true,decide_eq_true_eq] at h1 h2 h3 h4
 unfold getF
 repeat' split
 all_goals assumption
theorem kW_sz (d:Int):(kW d).size≤5:=by
 unfold kW
 repeat' split
 all_goals decide
theorem fsB_sz {x:Sp} (h:SpP x): ∀os:List Nat,(fsB x os).size≤20*os.length
 | []=>Nat.zero_le _
 | o::os=>by
   have h1:=fsB_sz h os
   have h2:=dgB_sz (n:=getF x o) (by have:=(getF_nm h o).2;omega)
   have h3:sp1.size=1:=rfl
   rw [fsB,app_size,app_size,List.length_cons];omega
theorem fsB_app (x:Sp): ∀(a b:List Nat),fsB x (a++b)=fsB x a++fsB x b
 | [],b=>(nil_app _).symm
 | o::a,b=>by rw [List.cons_append,fsB,fsB,fsB_app x a b];simp only [app_assoc]
theorem brF_app (x:Sp): ∀(a b:List Nat) (q:Sp),brF x (a++b) q=brF x b (brF x a q)
 | [],_,_=>rfl
 | o::a,b,q=>by rw [List.cons_append,brF,brF,brF_app x a b]
theorem brF_do (x:Sp): ∀(a:List Nat) (q:Sp),(brF x a q).do_=q.do_∧(brF x a q).text=q.text∧(brF x a q).list=q.list
 | [],_=>⟨rfl,rfl,rfl⟩
 | o::a,q=>by
   obtain ⟨h1,h2,h3⟩:=brF_do x a (setF q o (getF x o))
   obtain ⟨f1,f2,f3⟩:=setF_do q o (getF x o)
   exact ⟨h1.trans f1,h2.trans f2,h3.trans f3⟩
theorem rwB_app: ∀(a b:List Int),rwB (a++b)=rwB a++rwB b
 | [],b=>(nil_app _).symm
 | o::a,b=>by rw [List.cons_append,rwB,rwB,rwB_app a b];simp only [app_assoc]
theorem rwB_sz: ∀ {l:List Int},(∀v∈l,nmW v=true)→(rwB l).size≤20*l.length
 | [],_=>Nat.zero_le _
 | v::l,h=>by
   have h1:=rwB_sz fun w hw=>h w (List.mem_cons_of_mem _ hw)
   have hv:=h v List.mem_cons_self
   simp only [nmW,Bool.and_eq_true,decide_eq_true_eq] at hv
   have h2:=dgB_sz (n:=v) (by omega)
   have h3:sp1.size=1:=rfl
   rw [rwB,app_size,app_size,List.length_cons];omega
theorem tailV_sz {x:Sp} {t:ByteArray} (h:SpP x) (ht:tailV x=some t):t.size≤1376300:=by
 unfold tailV at ht
 split at ht
 ·obtain ⟨u,hu,rfl⟩:=Option.map_eq_some_iff.1 ht
  have:=termV_sz (Nat.lt_of_le_of_lt dataE_sz (by decide)) hu
  have h3:sp1.size=1:=rfl
  rw [app_size];omega
 split at ht
 ·cases ht
  have:=rwB_sz h.list
  have:=h.len
  omega
 ·cases ht;exact Nat.zero_le _
theorem stepV_sz {x:Sp} {t:ByteArray} (h:SpP x) (ht:stepV x=some t):t.size≤1376500:=by
 obtain ⟨u,hu,ht⟩:=Option.bind_eq_some_iff.1 ht
 split at ht
 ·cases ht
  have h1:=tailV_sz h hu
  have h2:=kW_sz x.do_
  have h3:=fsB_sz h (kO x.do_)
  have h4:=kO_le x.do_
  rw [app_size,app_size];omega
 ·cases ht
theorem vstep_ok (M:Mem) (L R:HL) (hG:G38 M) (bv:Nat) (nv:Value) (l:List UInt8) (r:Sr) (hr:SrOk M r) (hx:SpP r.sp) (h:VoAt bv nv l R L) (hz:l.length+1500000<1099511627776):
 TrE Tryz.prog 143 [pt bv,.agg ⟨srC r⟩] M L (vK bv nv l R M (stepV r.sp)):=by
 obtain ⟨x,hxe⟩: ∃x,r.sp=x:=⟨_,rfl⟩
 rw [hxe] at hx⊢
 have hsr:srC r=spC x r.list.v:=by rw [←hxe];rfl
 have hxd:r.do_=x.do_:=by rw [←hxe];rfl
 rw [hsr]
 obtain ⟨R0,hR⟩: ∃R,stepV x=R:=⟨_,rfl⟩
 rw [hR]
 rw [stepV] at hR
 have hk5:=kW_sz x.do_
 have hkO:=kO_le x.do_
 have hfz:=fsB_sz hx
 have h3s:sp1.size=1:=rfl
 refine TrE.intro 135 Tryz.func143 rfl rfl Tryz.call143 rfl ?_;intro C hC hro
 repeat (first | refine yy ?_ | refine yx fun _=> ?_)
 rename_i b3 b4
 have hB:=(h.cons (b3,.cells ⟨spC x r.list.v⟩ 60 (0,0))).cons (b4,.cells ⟨spC (sp0 x.do_) (.slice none 0 0)⟩ 60 (0,0))
 refine oc (fields_ok M _ b4 x.do_ _ List.mem_cons_self) ?_
 rintro _ M1 _ ⟨hM1,rfl,a4,rfl,hs4⟩
 repeat (first | refine yy ?_ | refine yx fun _=> ?_)
 refine oc (fields_ok M1 _ b3 x.do_ _ (List.mem_cons_of_mem _ List.mem_cons_self)) ?_
 rintro _ M2 _ ⟨hM2,rfl,a3,rfl,hs3⟩
 have hs4:=hs4.le hM2
 repeat (first | refine yy ?_ | refine yx fun _=> ?_)
 refine oc (say1_ok _ _ _ bv _ _ l (kW x.do_) hB (by omega)) ?_
 rintro _ M3 L3 ⟨hM3,hB3⟩
 have hs4:=hs4.le hM3
 have hs3:=hs3.le hM3
 have hMM:=Mem.le_trans (Mem.le_trans hM1 hM2) hM3
 clear hB
 repeat (first | refine yy ?_ | refine yx fun _=> ?_)
 refine run_loopN (fun j σ1 M4 L4=>j≤(kO x.do_).length∧M3.le M4∧VoAt bv nv (l++(kW x.do_++fsB x ((kO x.do_).take j)).data.toList) ((b4,.cells ⟨spC (brF x ((kO x.do_).take j) (sp0 x.do_)) (.slice none 0 0)⟩ 60 (0,0))::(b3,.cells ⟨spC x r.list.v⟩ 60 (0,0))::R) L4∧σ1= [(32,iv j),(31,iv (kO x.do_).length),(30,.slice a4 (kO x.do_).length (kO x.do_).length),(8,.slice a3 (kO x.do_).length (kO x.do_).length),(4,pt b4),(3,pt b3),(0,pt bv)]) (kO x.do_).length [(32,iv 0),(31,iv (kO x.do_).length),(30,.slice a4 (kO x.do_).length (kO x.do_).length),(8,.slice a3 (kO x.do_).length (kO x.do_).length),(4,pt b4),(3,pt b3),(0,pt bv)] ?_ ⟨Nat.zero_le _,Mem.le_refl _,by rw [List.take_zero,fsB,app_nil];exact hB3,rfl⟩ (fun j _ _ _ h=>h.1) ?_
 ·exact ⟨rfl,rfl,rfl,rfl,rfl,rfl,rfl,trivial⟩
 clear hB3
 rintro j _ M4 L4 ⟨hj,hM4,hB4,rfl⟩ hnext
 repeat (first | refine yy ?_ | refine yx fun _=> ?_)
 refine run_cond (t:=decide ((j:Int)<((kO x.do_).length:Int))) rfl (fun h2=> ?_) (fun h2=> ?_)
 ·have hlt:j<(kO x.do_).length:=by have:=of_decide_eq_true h2;omega
  obtain ⟨q4,f4,c4,rfl,hc4,_,hl4⟩:=(hs4.le hM4).at_ hlt
  obtain ⟨o,ho,rfl⟩: ∃o,(kO x.do_)[j]? =some o∧fdC b4 o=c4:=by simpa using hc4
  obtain ⟨q3,f3,c3,rfl,hc3,_,hl3⟩:=(hs3.le hM4).at_ hlt
  obtain ⟨o',ho',rfl⟩: ∃o,(kO x.do_)[j]? =some o∧fdC b3 o=c3:=by simpa using hc3
  obtain rfl:o=o':=Option.some.inj (ho.symm.trans ho')
  have hin:=kO_in (List.mem_of_getElem? ho)
  have htk:=take_snoc ho
  have hft:fsB x ((kO x.do_).take (j+1))=fsB x ((kO x.do_).take j)++(sp1++dgB (getF x o)):=by rw [htk,fsB_app,fsB,fsB,app_nil]
  have hbt:brF x ((kO x.do_).take (j+1)) (sp0 x.do_)=setF (brF x ((kO x.do_).take j) (sp0 x.do_)) o (getF x o):=by rw [htk,brF_app];rfl
  have hnm:=getF_nm hx o
  have hsz:=hfz ((kO x.do_).take j)
  have hln:((kO x.do_).take j).length≤3:=by rw [List.length_take];omega
  generalize hq:brF x ((kO x.do_).take j) (sp0 x.do_)=q at*
  have hm3:=hB4.memR (List.mem_cons_of_mem _ List.mem_cons_self)
  obtain ⟨L5,hu,hB5⟩:=VoAt.upd (A:= []) (.cells ⟨spC (setF q o (getF x o)) (.slice none 0 0)⟩ 60 (0,0)) hB4
  repeat (first | refine yy ?_ | refine yx fun _=> ?_ | refine vq ?_ (qt_ld tok rfl hm3 (getF_ld _ hin)) | refine ws ?_ rfl rfl rfl rfl rfl hu (setF_setI _ _ hin))
  refine oc (say1_ok _ _ _ bv _ _ _ sp1 hB5 (by rw [List.length_append,ba_len,app_size];omega)) ?_
  rintro _ M6 L6 ⟨hM6,hB6⟩
  have hm4:=hB6.memR List.mem_cons_self
  repeat (first | refine yy ?_ | refine yx fun _=> ?_ | refine vq ?_ (qt_ld tok rfl hm4 (getF_ld _ hin)))
  have hM34:=Mem.le_trans hM4 hM6
  refine runL_as 51 (.int .i64 (getF x o)) rfl (congrArg (Value.int .i64) (getF_set _ _ hin)) ?_
  refine oc (vnum_ok _ _ _ (hG.le (Mem.le_trans hMM hM34)) bv nv _ _ hnm.1 (by omega) hB6 (by simp only [List.length_append,ba_len,app_size];omega)) ?_
  rintro _ M7 L7 ⟨hM7,hB7⟩
  repeat (first | refine yy ?_ | refine yx fun _=> ?_)
  refine run_sub' (hnext _ _ _ ⟨hlt,Mem.le_trans hM34 hM7, ?_,rfl⟩) ⟨lk_succ rfl (by omega),rfl,rfl,rfl,rfl,rfl,rfl,trivial⟩
  rw [hft,hbt]
  simpa using hB7
 have hge:j=(kO x.do_).length:=by have:=of_decide_eq_false h2;omega
 subst hge
 clear hnext
 rw [List.take_length] at hB4
 have hM4:=Mem.le_trans hMM hM4
 have hxl:=brF_do x (kO x.do_) (sp0 x.do_)
 have hsz:=hfz (kO x.do_)
 have hm3:=hB4.memR (List.mem_cons_of_mem _ List.mem_cons_self)
 iterate 7 refine yy ?_
 refine run_cut (fun σ' M' L'=> ∃t bt la ln lc,tailV x=some t∧(bt=if x.do_=2 then x.text else ⟨#[]⟩)∧(ln=if x.do_=6 then r.list.len else 0)∧M.le M'∧σ'= [(4,pt b4),(3,pt b3),(0,pt bv)]∧VoAt bv nv (l++((kW x.do_++fsB x (kO x.do_))++t).data.toList) ((b4,.cells ⟨spC { bareN x with text:=bt } (.slice la ln lc)⟩ 60 (0,0))::(b3,.cells ⟨spC x r.list.v⟩ 60 (0,0))::R) L') ?_ ?_
 ·rintro _ M5 L5 ⟨t,bt,la,ln,lc,htl,hbt,hln,hM5,rfl,hB5⟩
  rw [htl,Option.bind_some] at hR
  have hm4:=hB5.memR List.mem_cons_self
  have hm3:=hB5.memR (List.mem_cons_of_mem _ List.mem_cons_self)
  have hlist:x.list.length=r.list.len:=by rw [←hxe];exact hr.list.len
  repeat (first | refine yy ?_ | refine yx fun _=> ?_)
  have he:((((((((bareN x).a==x.a)&&((bareN x).b==x.b))&&((bareN x).c==x.c))&&((bareN x).n==x.n))&&(bt.toList==x.text.toList))&&((ln:Int)==(r.list.len:Int))))=bareS x:=by
   have e1:(bt.toList==x.text.toList)=(decide (x.do_=2)||decide (x.text=⟨#[]⟩)):=by
    rw [bytes_beq,hbt]
    by_cases hd:x.do_=2
    ·simp [hd]
    ·simp [hd,eq_comm]
   have e2:((ln:Int)==(r.list.len:Int))=(decide (x.do_=6)||decide (x.list= [])):=by
    rw [hln,←hlist]
    by_cases hd:x.do_=6
    ·simp [hd]
    ·cases x.list <;> simp [hd] <;> omega
   rw [e1,e2];rfl
  refine umR (b:=((((((((bareN x).a==x.a)&&((bareN x).b==x.b))&&((bareN x).c==x.c))&&((bareN x).n==x.n))&&(bt.toList==x.text.toList))&&((ln:Int)==(r.list.len:Int))))) (fun h1=> ?_) (fun h1=> ?_)
  rotate_left
  ·rw [he] at h1
   rw [if_neg (by rw [h1];decide)] at hR
   obtain ⟨p',v',N,_,hL,_⟩:=hB5
   exact runX_pan hC (fun _ h=>h) ⟨hM5,by rw [←hR];exact ⟨rfl,_,panN (panN (panN hL))⟩⟩
  ·rw [he] at h1
   rw [if_pos h1] at hR
   repeat (first | refine yy ?_ | refine yx fun _=> ?_)
   obtain ⟨L6,hL6,hB6⟩:=hB5.drop
   obtain ⟨L7,hL7,hB7⟩:=hB6.drop
   refine run_endX hro ?_
   exact runX_ret hC (rs:= []) rfl (vs:= []) trivial (fun w h=>hL7 _ w (hL6 _ w h)) ⟨hM5,by rw [←hR];exact ⟨rfl,hB7⟩⟩
 intro hk
 have hln0:(l++(kW x.do_++fsB x (kO x.do_)).data.toList).length≤l.length+65:=by rw [List.length_append,ba_len,app_size];omega
 have hap: ∀t:ByteArray,l++((kW x.do_++fsB x (kO x.do_))++t).data.toList=(l++(kW x.do_++fsB x (kO x.do_)).data.toList)++t.data.toList:=fun t=>by simp
 generalize hl0:l++(kW x.do_++fsB x (kO x.do_)).data.toList=l0 at hln0 hap hB4
 have hbn:brF x (kO x.do_) (sp0 x.do_)=bareN x:=rfl
 rw [hbn] at hB4 hxl
 have hbt0:(bareN x).text=⟨#[]⟩:=hxl.2.1
 repeat (first | refine yy ?_ | refine yx fun _=> ?_)
 refine run_cond (t:=x.do_==2) rfl (fun h2=> ?_) (fun h2=> ?_)
 ·have hd2:x.do_=2:=by simpa using h2
  rw [tailV,if_pos hd2] at hR
  obtain ⟨L5,hu,hB5⟩:=VoAt.upd (A:= []) (.cells ⟨spC { bareN x with text:=x.text } (.slice none 0 0)⟩ 60 (0,0)) hB4
  have hm5:=hB5.memR (List.mem_cons_of_mem _ List.mem_cons_self)
  have hdz:=dataE_sz (s:=x.text)
  repeat (first | refine yy ?_ | refine yx fun _=> ?_ | refine ws ?_ rfl rfl rfl rfl rfl hu rfl)
  refine qc (data_ok _ _ x.text (by have:=hx.text;omega)) ?_
  repeat (first | refine yy ?_ | refine yx fun _=> ?_)
  refine oc (say1_ok _ _ _ bv _ _ _ sp1 hB5 (by omega)) ?_
  rintro _ M6 L6 ⟨hM6,hB6⟩
  repeat (first | refine yy ?_ | refine yx fun _=> ?_)
  refine vR (vterm_ok _ _ _ bv nv _ (dataE x.text).1 (by omega) hB6 (by rw [List.length_append,ba_len];omega)) (fun t M7 L7 ht hM7 hB7=> ?_) (fun ht M7 L7 N hM7 hN=> ?_)
  rotate_left
  ·rw [ht] at hR
   exact runX_pan hC (fun _ h=>h) ⟨Mem.le_trans hM4 (Mem.le_trans hM6 hM7),by rw [←hR];exact ⟨rfl,_,panN (panN hN)⟩⟩
  refine yi ?_
  refine yy ?_
  refine run_sub' (hk _ _ _ ⟨sp1++t,x.text,none,0,0,by rw [tailV,if_pos hd2,ht];rfl,by rw [if_pos hd2],by rw [if_neg (by omega)],Mem.le_trans hM4 (Mem.le_trans hM6 hM7),rfl, ?_⟩) ⟨rfl,rfl,rfl,trivial⟩
  rw [hap]
  simpa using hB7
 have hd2: ¬x.do_=2:=by simpa using h2
 repeat (first | refine yy ?_ | refine yx fun _=> ?_)
 refine run_cond (t:=x.do_==6) rfl (fun h6=> ?_) (fun h6=> ?_)
 rotate_left
 ·have hd6: ¬x.do_=6:=by simpa using h6
  refine yi ?_
  refine yy ?_
  refine run_sub' (hk _ _ _ ⟨⟨#[]⟩,⟨#[]⟩,none,0,0,by rw [tailV,if_neg hd2,if_neg hd6],by rw [if_neg hd2],by rw [if_neg hd6],hM4,rfl, ?_⟩) ⟨rfl,rfl,rfl,trivial⟩
  rw [hap]
  have hbn':({ bareN x with text:=⟨#[]⟩ } :Sp)=bareN x:=by rw [←hbt0]
  rw [hbn']
  simpa using hB4
 have hd6:x.do_=6:=by simpa using h6
 obtain ⟨L5,hu,hB5⟩:=VoAt.upd (A:= []) (.cells ⟨spC (bareN x) r.list.v⟩ 60 (0,0)) hB4
 have hm5:=hB5.memR (List.mem_cons_of_mem _ List.mem_cons_self)
 have hll:x.list=r.list.xs:=by rw [←hxe];rfl
 have hlen:=hr.list.len
 have hl32:=hx.len
 have hrw:=rwB_sz hx.list
 have hl6:=hr.list.2
 repeat (first | refine yy ?_ | refine yx fun _=> ?_ | refine ws ?_ rfl rfl rfl rfl rfl hu rfl)
 refine run_loopN (fun j σ1 M6 L6=>j≤r.list.len∧M.le M6∧VoAt bv nv (l0++(rwB (x.list.take j)).data.toList) ((b4,.cells ⟨spC (bareN x) r.list.v⟩ 60 (0,0))::(b3,.cells ⟨spC x r.list.v⟩ 60 (0,0))::R) L6∧σ1= [(81,iv j),(80,iv r.list.len),(79,r.list.v),(4,pt b4),(3,pt b3),(0,pt bv)]) r.list.len [(81,iv 0),(80,iv r.list.len),(79,r.list.v),(4,pt b4),(3,pt b3),(0,pt bv)] ?_ ⟨Nat.zero_le _,hM4,by simpa [rwB] using hB5,rfl⟩ (fun j _ _ _ h=>h.1) ?_
 ·exact ⟨rfl,rfl,rfl,rfl,rfl,rfl,trivial⟩
 clear hB5 hm5
 rintro j _ M6 L6 ⟨hj,hM6,hB6,rfl⟩ hnext
 repeat (first | refine yy ?_ | refine yx fun _=> ?_)
 refine run_cond (t:=decide ((j:Int)<(r.list.len:Int))) rfl (fun h7=> ?_) (fun h7=> ?_)
 ·have hlt:j<r.list.len:=by have:=of_decide_eq_true h7;omega
  obtain ⟨b,off,m,hma,hm,hc⟩:=SIn.at_ (hr.list.le hM6).1 hlt
  have hv:r.list.v= .slice (some ⟨b,off,none⟩) r.list.len r.list.cap:=by rw [←hma];rfl
  have hmx:x.list[j]? =some m:=by rw [hll];exact hm
  have hnm:=hx.list m (List.mem_of_getElem? hmx)
  simp only [nmW,Bool.and_eq_true,decide_eq_true_eq] at hnm
  have htk:rwB (x.list.take (j+1))=rwB (x.list.take j)++(sp1++dgB m):=by rw [take_snoc hmx,rwB_app,rwB,rwB,app_nil]
  have hzj:(rwB (x.list.take j)).size≤20*(x.list.take j).length:=rwB_sz fun v hv=>hx.list v (List.mem_of_mem_take hv)
  rw [List.length_take] at hzj
  refine run_as 79 (.slice (some ⟨b,off,none⟩) r.list.len r.list.cap) rfl hv ?_
  repeat (first | refine yy ?_ | refine yx fun _=> ?_)
  refine oc (say1_ok _ _ _ bv _ _ _ sp1 hB6 (by rw [List.length_append,ba_len];omega)) ?_
  rintro _ M7 L7 ⟨hM7,hB7⟩
  repeat (first | refine yy ?_ | refine yx fun _=> ?_)
  refine oc (vnum_ok _ _ _ (hG.le (Mem.le_trans hM6 hM7)) bv nv _ _ hnm.1 (by omega) hB7 (by simp only [List.length_append,ba_len];omega)) ?_
  rintro _ M8 L8 ⟨hM8,hB8⟩
  repeat (first | refine yy ?_ | refine yx fun _=> ?_)
  refine run_sub' (hnext _ _ _ ⟨hlt,Mem.le_trans hM6 (Mem.le_trans hM7 hM8), ?_,rfl⟩) ⟨lk_succ rfl (by omega),rfl,by rw [hv];rfl,rfl,rfl,rfl,trivial⟩
  rw [htk]
  simpa using hB8
 have hge:j=r.list.len:=by have:=of_decide_eq_false h7;omega
 rw [hge,←hlen,←hll,List.take_length] at hB6
 repeat (first | refine yi ?_)
 refine yy ?_
 refine run_sub' (hk _ _ _ ⟨rwB x.list,⟨#[]⟩,r.list.a,r.list.len,r.list.cap,by rw [tailV,if_neg hd2,if_pos hd6],by rw [if_neg hd2],by rw [if_pos hd6],hM6,rfl, ?_⟩) ⟨rfl,rfl,rfl,trivial⟩
 rw [hap]
 have hbn':({ bareN x with text:=⟨#[]⟩ } :Sp)=bareN x:=by rw [←hbt0]
 rw [hbn']
 exact hB6
def stepsW:Bool→List Sp→Option ByteArray
 | _,[]=>some ⟨#[]⟩
 | f,x::l=>(stepV x).bind fun a=>(stepsW false l).bind fun b=>some ((if f then a else plusB++a)++b)
def stepsV (l:List Sp):Option ByteArray:=if l= [] then some wNothing else stepsW true l
theorem stepsW_sz: ∀ {l:List Sp} {f:Bool} {t:ByteArray},(∀x∈l,SpP x)→stepsW f l=some t→t.size≤1376600*l.length
 | [],f,t,_,h=>by cases h;exact Nat.zero_le _
 | x::l,f,t,hp,h=>by
   rw [stepsW] at h
   obtain ⟨a,ha,h⟩:=Option.bind_eq_some_iff.1 h
   obtain ⟨b,hb,h⟩:=Option.bind_eq_some_iff.1 h
   cases h
   have h1:=stepV_sz (hp x List.mem_cons_self) ha
   have h2:=stepsW_sz (fun y hy=>hp y (List.mem_cons_of_mem _ hy)) hb
   have h3:plusB.size=3:=rfl
   rw [app_size,List.length_cons]
   split
   ·omega
   ·rw [app_size];omega
theorem stepsV_sz {l:List Sp} {t:ByteArray} (hl:l.length≤64) (hp: ∀x∈l,SpP x) (h:stepsV l=some t):t.size≤90000000:=by
 unfold stepsV at h
 split at h
 ·cases h;decide
 ·have:=stepsW_sz hp h;omega
def aft (t:ByteArray) (o:Option ByteArray):Option ByteArray:=o.map fun u=>t++u
theorem aft_bind (t a:ByteArray) (o:Option ByteArray):aft t (o.bind fun b=>some (a++b))=aft (t++a) o:=by
 cases o with
 | none=>rfl
 | some u=>simp [aft,app_assoc]
theorem vsteps_ok (M:Mem) (L R:HL) (hG:G38 M) (bv:Nat) (nv:Value) (l:List UInt8) (S:SSr) (hS:SsOk M S) (hp: ∀x∈S.xs.map Sr.sp,SpP x) (h64:S.xs.length≤64) (h:VoAt bv nv l R L) (hz:l.length+100000000<1099511627776):
 TrE Tryz.prog 113 [pt bv,S.v] M L (vK bv nv l R M (stepsV (S.xs.map Sr.sp))):=by
 obtain ⟨R0,hR⟩: ∃R,stepsV (S.xs.map Sr.sp)=R:=⟨_,rfl⟩
 rw [hR]
 rw [stepsV] at hR
 have hlen:=hS.len
 have hlt6:=hS.lt
 refine TrE.intro 28 Tryz.func113 rfl rfl Tryz.call113 rfl ?_;intro C hC hro
 repeat (first | refine yy ?_ | refine yx fun _=> ?_)
 refine run_condI (fun σ' M' L'=> ∃t,M.le M'∧σ'= [(0,pt bv),(1,S.v)]∧VoAt bv nv (l++t.data.toList) R L'∧(S.len=0→R0=some t)∧(S.len≠0→t=⟨#[]⟩)) (t:=(S.len:Int)==0) rfl (fun h0 hk=> ?_) (fun h0 hk=> ?_) ?_
 ·have h0':S.len=0:=by simpa using h0
  have hnil:S.xs.map Sr.sp= []:=by rw [List.map_eq_nil_iff];exact List.length_eq_zero_iff.1 (by omega)
  rw [if_pos hnil] at hR
  repeat (first | refine yy ?_ | refine yx fun _=> ?_)
  refine oc (say1_ok _ _ _ bv _ _ _ wNothing h (by show l.length+7<_;omega)) ?_
  rintro _ M1 L1 ⟨hM1,hB1⟩
  refine yy ?_
  exact run_sub' (hk _ _ _ ⟨wNothing,hM1,rfl,hB1,fun _=>hR.symm,fun h=>absurd h0' h⟩) ⟨rfl,rfl,trivial⟩
 ·have h0':S.len≠0:=by simpa using h0
  refine yy ?_
  exact run_sub' (hk _ _ _ ⟨⟨#[]⟩,Mem.le_refl _,rfl,by simpa using h,fun h=>absurd h h0',fun _=>rfl⟩) ⟨rfl,rfl,trivial⟩
 rintro _ M1 L1 ⟨t0,hM1,rfl,hB1,ht0,ht1⟩
 repeat (first | refine yy ?_ | refine yx fun _=> ?_)
 refine run_loopN (fun j σ1 M2 L2=>j≤S.len∧M.le M2∧(∃t,VoAt bv nv (l++t.data.toList) R L2∧t.size≤7+1376600*j∧(S.len=0→R0=some t)∧(S.len≠0→R0=aft t (stepsW (decide (j=0)) ((S.xs.map Sr.sp).drop j))))∧σ1= [(14,iv j),(13,iv S.len),(12,S.v),(0,pt bv)]) S.len [(14,iv 0),(13,iv S.len),(12,S.v),(0,pt bv)] ?_ ⟨Nat.zero_le _,hM1,⟨t0,hB1, ?_,ht0, ?_⟩,rfl⟩ (fun j _ _ _ h=>h.1) ?_
 ·exact ⟨rfl,rfl,rfl,rfl,trivial⟩
 ·by_cases h0:S.len=0
  ·have hnil:S.xs.map Sr.sp= []:=by rw [List.map_eq_nil_iff];exact List.length_eq_zero_iff.1 (by omega)
   have:=ht0 h0
   rw [if_pos hnil,this] at hR
   cases hR
   decide
  ·rw [ht1 h0];exact Nat.zero_le _
 ·intro h0
  rw [ht1 h0,←hR,if_neg (fun hc=>h0 (by rw [←hlen];rw [List.map_eq_nil_iff] at hc;rw [hc];rfl))]
  show stepsW true _=aft _ (stepsW true _)
  rw [List.drop_zero,aft]
  cases stepsW true (S.xs.map Sr.sp)with
  | none=>rfl
  | some u=>show some u=some (⟨#[]⟩++u);rw [nil_app]
 rintro j _ M2 L2 ⟨hj,hM2,⟨t,hB2,htz,hR0,hR1⟩,rfl⟩ hnext
 repeat (first | refine yy ?_ | refine yx fun _=> ?_)
 refine run_cond (t:=decide ((j:Int)<(S.len:Int))) rfl (fun h2=> ?_) (fun h2=> ?_)
 rotate_left
 ·have hge:j=S.len:=by have:=of_decide_eq_false h2;omega
  have hRt:R0=some t:=by
   by_cases h0:S.len=0
   ·exact hR0 h0
   ·rw [hR1 h0,hge,List.drop_of_length_le (by rw [List.length_map];omega),stepsW,aft,Option.map_some,app_nil]
  repeat (first | refine yy ?_ | refine yx fun _=> ?_)
  refine run_endX hro ?_
  exact runX_ret hC (rs:= []) rfl (vs:= []) trivial (fun _ h=>h) ⟨hM2,by rw [hRt];exact ⟨rfl,hB2⟩⟩
 have hlt:j<S.len:=by have:=of_decide_eq_true h2;omega
 obtain ⟨b,off,m,hma,hm,hc⟩:=SSr.at_ (hS.le hM2).sl hlt
 have hv:S.v= .slice (some ⟨b,off,none⟩) S.len S.cap:=by rw [←hma];rfl
 have hmo:=(hS.le hM2).each m (List.mem_of_getElem? hm)
 have hmx:(S.xs.map Sr.sp)[j]? =some m.sp:=by rw [List.getElem?_map,hm];rfl
 have hlx:j<(S.xs.map Sr.sp).length:=(List.getElem?_eq_some_iff.1 hmx).1
 have hmp:=hp m.sp (List.mem_of_getElem? hmx)
 have hR2:=hR1 (by omega)
 rw [List.drop_eq_getElem_cons hlx,(List.getElem?_eq_some_iff.1 hmx).2,stepsW] at hR2
 refine run_as 12 (.slice (some ⟨b,off,none⟩) S.len S.cap) rfl hv ?_
 repeat (first | refine yy ?_ | refine yx fun _=> ?_)
 rename_i b5
 have hB2':=hB2.cons (b5,.cells ⟨srC m⟩ 60 (0,0))
 refine run_condI (fun σ' M' L'=>M2.le M'∧VoAt bv nv (l++(if j=0 then t else t++plusB).data.toList) ((b5,.cells ⟨srC m⟩ 60 (0,0))::R) L'∧σ'= [(5,pt b5),(12,.slice (some ⟨b,off,none⟩) S.len S.cap),(14,iv j),(13,iv S.len),(0,pt bv)]) (t:=decide ((j:Int)>0)) rfl (fun h0 hk=> ?_) (fun h0 hk=> ?_) ?_
 ·have hj0:j≠0:=by have:=of_decide_eq_true h0;omega
  refine yy ?_
  refine yy ?_
  refine yx fun b6=> ?_
  refine oc (say1_ok _ _ _ bv _ _ _ plusB hB2' (by rw [List.length_append,ba_len];show _+3<_;omega)) ?_
  rintro _ M3 L3 ⟨hM3,hB3⟩
  refine yy ?_
  exact run_sub' (hk _ _ _ ⟨hM3,by rw [if_neg hj0];simpa using hB3,rfl⟩) ⟨rfl,rfl,rfl,rfl,rfl,trivial⟩
 ·have hj0:j=0:=by have:=of_decide_eq_false h0;omega
  refine yy ?_
  exact run_sub' (hk _ _ _ ⟨Mem.le_refl _,by rw [if_pos hj0];exact hB2',rfl⟩) ⟨rfl,rfl,rfl,rfl,rfl,trivial⟩
 rintro _ M3 L3 ⟨hM3,hB3,rfl⟩
 have hM23:=Mem.le_trans hM2 hM3
 have hm5:=hB3.memR List.mem_cons_self
 have htz3:(if j=0 then t else t++plusB).size≤t.size+3:=by
  split
  ·omega
  ·rw [app_size];exact Nat.le_refl _
 repeat (first | refine yy ?_ | refine yx fun _=> ?_)
 refine vR (vstep_ok _ _ _ (hG.le hM23) bv nv _ m (hmo.le hM3) hmp hB3 (by rw [List.length_append,ba_len];omega)) (fun u M4 L4 hu hM4 hB4=> ?_) (fun hu M4 L4 N hM4 hN=> ?_)
 rotate_left
 ·rw [hu] at hR2
  exact runX_pan hC (fun _ h=>h) ⟨Mem.le_trans hM23 hM4,by rw [hR2];exact ⟨rfl,_,panN hN⟩⟩
 rw [hu,Option.bind_some] at hR2
 have huz:=stepV_sz hmp hu
 obtain ⟨L5,hL5,hB5⟩:=hB4.drop
 repeat (first | refine yy ?_ | refine yx fun _=> ?_)
 refine run_mem (hL5 _) (run_sub' (hnext _ _ _ ⟨hlt,Mem.le_trans hM23 hM4,⟨t++(if decide (j=0)=true then u else plusB++u), ?_, ?_,fun h=>by omega,fun _=> ?_⟩,rfl⟩) ⟨lk_succ rfl (by omega),rfl,by rw [hv];rfl,rfl,trivial⟩)
 ·by_cases h0:j=0
  ·simpa [h0] using hB5
  ·simpa [h0] using hB5
 ·rw [app_size]
  split
  ·omega
  ·rw [app_size,show plusB.size=3 from rfl];omega
 ·rw [hR2,aft_bind]
  rfl
end Go.Proofs.YtladcmfbkiogbaaGreatDoor
namespace Go.Chi
section
variable {P:Program} {T:TT} {ro:Option Nat} {σ:Env} {δ:Den} {cur:Path} {M:Mem} {L:HL} {d:Option Nat} {ty:TypeId} {pos:String} {aft:Array Edge} {g:Option (Nat×Bool)} {v:Value}
theorem qt_min2 {x y:Operand} {tys:Array TypeId} {k k':IntKind} {m n:Int} (hx:ev σ δ cur x=some (.int k m)) (hy:ev σ δ cur y=some (.int k' n)):
 Qt P ro ⟨d,.call ⟨.builtin .min,#[x,y],tys⟩,ty,pos,aft,g⟩ σ δ cur M L (.int k (if n<m then n else m)):=
 qt_of_run (semAt_of (by intro c e;cases e)) fun a w hs hcur hp=>by
  simp [execOp,resolve,invoke,builtin,Builtin.min_,Builtin.min2,ev_sound hs hcur hx,ev_sound hs hcur hy]
end
end Go.Chi
namespace Go.Proofs.YtladcmfbkiogbaaGreatDoor
open Go.Chi Go.Lib
set_option maxRecDepth 10000
def vBegins:ByteArray:=⟨#[32,98,101,103,105,110,115,32,102,111,114,32]⟩
def vYes:ByteArray:=⟨#[32,115,97,121,115,32,121,101,115,32,116,111,32]⟩
def vNo:ByteArray:=⟨#[32,115,97,121,115,32,110,111,32,116,111,32]⟩
def vTicks:ByteArray:=⟨#[32,116,105,99,107,115]⟩
def vAnew:ByteArray:=⟨#[32,98,101,103,105,110,115,32,97,110,101,119]⟩
def vStops:ByteArray:=⟨#[32,115,116,111,112,115,32,98,101,104,105,110,100,32]⟩
def vCrash:ByteArray:=⟨#[32,99,114,97,115,104,101,115,32,97,110,100,32,107,101,101,112,115,32]⟩
def vGets:ByteArray:=⟨#[32,103,101,116,115,32]⟩
def vJudges:ByteArray:=⟨#[32,106,117,100,103,101,115,32]⟩
def vShows:ByteArray:=⟨#[32,115,104,111,119,115,32]⟩
def givesV (names:List ByteArray):Bool→List Mb→Option ByteArray
 | _,[]=>some ⟨#[]⟩
 | f,m::l=>(orgV names m.org.toNat).bind fun o=>(termV m.digest).bind fun t=>(givesV names false l).bind fun b=>some ((((if f then colB else semB)++o)++(sp1++t))++b)
def begV (names:List ByteArray) (a:Aa):Option ByteArray:=(orgV names a.auditor.toNat).bind fun o=>aft (vBegins++o) (givesV names true a.gives)
def verbV (names:List ByteArray) (a:Aa):Option ByteArray:=
 if a.do_=1 then begV names a else if a.do_=2 then aft (if a.yes=true then vYes else vNo) (txnV names a.txn)else if a.do_=3 then some vTicks else if a.do_=8 then some vAnew
 else if a.do_=6 then some (vStops++dgB a.n)else if a.do_=7 then some (vCrash++dgB a.n)else if a.do_=5 then aft vGets (stepsV a.steps)else if a.do_=10 then aft vJudges (stepsV a.steps)else aft vShows (txnV names a.txn)
structure FitA (M:Mem) (ax:Ax):Prop where
 ok:AxOk M ax
 org:0≤ax.org∧ax.org≤7
 aud:0≤ax.auditor∧ax.auditor≤7
 n:0≤ax.n∧ax.n≤2147483647
 tx:0≤ax.txn.coord∧(0≤ax.txn.epoch∧ax.txn.epoch≤9223372036854775807)∧(0≤ax.txn.seq∧ax.txn.seq≤9223372036854775807)
 gives:ax.gives.xs.length≤6∧ ∀m∈ax.gives.xs,0≤m.org∧m.org≤7∧m.digest.size<1000000
 steps:ax.steps.xs.length≤64∧ ∀x∈ax.steps.xs.map Sr.sp,SpP x
theorem vtick_ok (M:Mem) (L R:HL) (_:G38 M) (bv:Nat) (l:List UInt8) (S:SStr) (_:StOk M S) (ax:Ax) (_:FitA M ax) (h:VoAt bv S.v l R L) (hz:l.length+1000000000<1099511627776) (_: ∀x∈S.xs,x.size<1000000):
 TrE Tryz.prog 69 [pt bv,.agg ⟨axC ax⟩] M L (vK bv S.v l R M (some vTicks)):=by
 refine TrE.intro 7 Tryz.func69 rfl rfl Tryz.call69 rfl ?_;intro C hC hro
 refine run_seq ?_
 refine run_region ?_
 refine yx fun b3=> ?_
 refine runL_nil ?_
 have hB0:VoAt bv S.v l (acB b3 ax::R) (acB b3 ax::L):=h.cons _
 have hm0:=hB0.memR List.mem_cons_self
 repeat (first | refine yy ?_ | refine yx fun _=> ?_)
 refine oc (say1_ok _ _ _ bv _ _ _ vTicks hB0 (by have:vTicks.size≤30:=(by decide);omega)) ?_
 rintro _ M1 L1 ⟨hM1,hB1⟩
 have hm1:=hB1.memR List.mem_cons_self
 repeat (first | refine yy ?_ | refine yx fun _=> ?_)
 obtain ⟨L9,hL9,hB9⟩:=hB1.drop
 refine run_endX hro ?_
 refine runX_ret hC (rs:= []) rfl (vs:= []) trivial (hL9 _) ⟨hM1, ?_⟩
 show _∧VoAt _ _ _ _ _
 refine ⟨rfl, ?_⟩
 simpa using hB9
theorem vanew_ok (M:Mem) (L R:HL) (_:G38 M) (bv:Nat) (l:List UInt8) (S:SStr) (_:StOk M S) (ax:Ax) (_:FitA M ax) (h:VoAt bv S.v l R L) (hz:l.length+1000000000<1099511627776) (_: ∀x∈S.xs,x.size<1000000):
 TrE Tryz.prog 70 [pt bv,.agg ⟨axC ax⟩] M L (vK bv S.v l R M (some vAnew)):=by
 refine TrE.intro 7 Tryz.func70 rfl rfl Tryz.call70 rfl ?_;intro C hC hro
 refine run_seq ?_
 refine run_region ?_
 refine yx fun b3=> ?_
 refine runL_nil ?_
 have hB0:VoAt bv S.v l (acB b3 ax::R) (acB b3 ax::L):=h.cons _
 have hm0:=hB0.memR List.mem_cons_self
 repeat (first | refine yy ?_ | refine yx fun _=> ?_)
 refine oc (say1_ok _ _ _ bv _ _ _ vAnew hB0 (by have:vAnew.size≤30:=(by decide);omega)) ?_
 rintro _ M1 L1 ⟨hM1,hB1⟩
 have hm1:=hB1.memR List.mem_cons_self
 repeat (first | refine yy ?_ | refine yx fun _=> ?_)
 obtain ⟨L9,hL9,hB9⟩:=hB1.drop
 refine run_endX hro ?_
 refine runX_ret hC (rs:= []) rfl (vs:= []) trivial (hL9 _) ⟨hM1, ?_⟩
 show _∧VoAt _ _ _ _ _
 refine ⟨rfl, ?_⟩
 simpa using hB9
theorem varm_ok (M:Mem) (L R:HL) (hG:G38 M) (bv:Nat) (l:List UInt8) (S:SStr) (_:StOk M S) (ax:Ax) (hf:FitA M ax) (h:VoAt bv S.v l R L) (hz:l.length+1000000000<1099511627776) (_: ∀x∈S.xs,x.size<1000000):
 TrE Tryz.prog 71 [pt bv,.agg ⟨axC ax⟩] M L (vK bv S.v l R M (some (vStops++dgB ax.n))):=by
 refine TrE.intro 11 Tryz.func71 rfl rfl Tryz.call71 rfl ?_;intro C hC hro
 refine run_seq ?_
 refine run_region ?_
 refine yx fun b3=> ?_
 refine runL_nil ?_
 have hB0:VoAt bv S.v l (acB b3 ax::R) (acB b3 ax::L):=h.cons _
 have hm0:=hB0.memR List.mem_cons_self
 repeat (first | refine yy ?_ | refine yx fun _=> ?_)
 refine oc (say1_ok _ _ _ bv _ _ _ vStops hB0 (by have:vStops.size≤30:=(by decide);omega)) ?_
 rintro _ M1 L1 ⟨hM1,hB1⟩
 have hm1:=hB1.memR List.mem_cons_self
 repeat (first | refine yy ?_ | refine yx fun _=> ?_)
 refine oc (vnum_ok _ _ _ (hG.le hM1) bv _ _ _ hf.n.1 (by have:=hf.n.2;omega) hB1 (by have:vStops.size≤30:=(by decide);rw [List.length_append,ba_len];omega)) ?_
 rintro _ M2 L2 ⟨hM2,hB2⟩
 repeat (first | refine yy ?_ | refine yx fun _=> ?_)
 obtain ⟨L9,hL9,hB9⟩:=hB2.drop
 refine run_endX hro ?_
 refine runX_ret hC (rs:= []) rfl (vs:= []) trivial (hL9 _) ⟨Mem.le_trans hM1 hM2, ?_⟩
 show _∧VoAt _ _ _ _ _
 refine ⟨rfl, ?_⟩
 simpa using hB9
theorem vcrash_ok (M:Mem) (L R:HL) (hG:G38 M) (bv:Nat) (l:List UInt8) (S:SStr) (_:StOk M S) (ax:Ax) (hf:FitA M ax) (h:VoAt bv S.v l R L) (hz:l.length+1000000000<1099511627776) (_: ∀x∈S.xs,x.size<1000000):
 TrE Tryz.prog 72 [pt bv,.agg ⟨axC ax⟩] M L (vK bv S.v l R M (some (vCrash++dgB ax.n))):=by
 refine TrE.intro 11 Tryz.func72 rfl rfl Tryz.call72 rfl ?_;intro C hC hro
 refine run_seq ?_
 refine run_region ?_
 refine yx fun b3=> ?_
 refine runL_nil ?_
 have hB0:VoAt bv S.v l (acB b3 ax::R) (acB b3 ax::L):=h.cons _
 have hm0:=hB0.memR List.mem_cons_self
 repeat (first | refine yy ?_ | refine yx fun _=> ?_)
 refine oc (say1_ok _ _ _ bv _ _ _ vCrash hB0 (by have:vCrash.size≤30:=(by decide);omega)) ?_
 rintro _ M1 L1 ⟨hM1,hB1⟩
 have hm1:=hB1.memR List.mem_cons_self
 repeat (first | refine yy ?_ | refine yx fun _=> ?_)
 refine oc (vnum_ok _ _ _ (hG.le hM1) bv _ _ _ hf.n.1 (by have:=hf.n.2;omega) hB1 (by have:vCrash.size≤30:=(by decide);rw [List.length_append,ba_len];omega)) ?_
 rintro _ M2 L2 ⟨hM2,hB2⟩
 repeat (first | refine yy ?_ | refine yx fun _=> ?_)
 obtain ⟨L9,hL9,hB9⟩:=hB2.drop
 refine run_endX hro ?_
 refine runX_ret hC (rs:= []) rfl (vs:= []) trivial (hL9 _) ⟨Mem.le_trans hM1 hM2, ?_⟩
 show _∧VoAt _ _ _ _ _
 refine ⟨rfl, ?_⟩
 simpa using hB9
theorem vinject_ok (M:Mem) (L R:HL) (hG:G38 M) (bv:Nat) (l:List UInt8) (S:SStr) (_:StOk M S) (ax:Ax) (hf:FitA M ax) (h:VoAt bv S.v l R L) (hz:l.length+1000000000<1099511627776) (_: ∀x∈S.xs,x.size<1000000):
 TrE Tryz.prog 73 [pt bv,.agg ⟨axC ax⟩] M L (vK bv S.v l R M (aft vGets (stepsV (ax.steps.xs.map Sr.sp)))):=by
 refine TrE.intro 11 Tryz.func73 rfl rfl Tryz.call73 rfl ?_;intro C hC hro
 refine run_seq ?_
 refine run_region ?_
 refine yx fun b3=> ?_
 refine runL_nil ?_
 have hB0:VoAt bv S.v l (acB b3 ax::R) (acB b3 ax::L):=h.cons _
 have hm0:=hB0.memR List.mem_cons_self
 repeat (first | refine yy ?_ | refine yx fun _=> ?_)
 refine oc (say1_ok _ _ _ bv _ _ _ vGets hB0 (by have:vGets.size≤30:=(by decide);omega)) ?_
 rintro _ M1 L1 ⟨hM1,hB1⟩
 have hm1:=hB1.memR List.mem_cons_self
 repeat (first | refine yy ?_ | refine yx fun _=> ?_)
 refine vR (vsteps_ok _ _ _ (hG.le hM1) bv _ _ ax.steps (hf.ok.steps.le hM1) hf.steps.2 hf.steps.1 hB1 (by have:vGets.size≤30:=(by decide);rw [List.length_append,ba_len];omega)) (fun t M2 L2 ht hM2 hB2=> ?_) (fun ht M2 L2 N hM2 hN=> ?_)
 rotate_left
 ·exact runX_pan hC (fun _ h=>h) ⟨Mem.le_trans hM1 hM2,by rw [ht];exact ⟨rfl,_,panN hN⟩⟩
 repeat (first | refine yy ?_ | refine yx fun _=> ?_)
 obtain ⟨L9,hL9,hB9⟩:=hB2.drop
 refine run_endX hro ?_
 refine runX_ret hC (rs:= []) rfl (vs:= []) trivial (hL9 _) ⟨Mem.le_trans hM1 hM2, ?_⟩
 rw [ht]
 refine ⟨rfl, ?_⟩
 simpa using hB9
theorem vpresent_ok (M:Mem) (L R:HL) (hG:G38 M) (bv:Nat) (l:List UInt8) (S:SStr) (_:StOk M S) (ax:Ax) (hf:FitA M ax) (h:VoAt bv S.v l R L) (hz:l.length+1000000000<1099511627776) (_: ∀x∈S.xs,x.size<1000000):
 TrE Tryz.prog 74 [pt bv,.agg ⟨axC ax⟩] M L (vK bv S.v l R M (aft vJudges (stepsV (ax.steps.xs.map Sr.sp)))):=by
 refine TrE.intro 11 Tryz.func74 rfl rfl Tryz.call74 rfl ?_;intro C hC hro
 refine run_seq ?_
 refine run_region ?_
 refine yx fun b3=> ?_
 refine runL_nil ?_
 have hB0:VoAt bv S.v l (acB b3 ax::R) (acB b3 ax::L):=h.cons _
 have hm0:=hB0.memR List.mem_cons_self
 repeat (first | refine yy ?_ | refine yx fun _=> ?_)
 refine oc (say1_ok _ _ _ bv _ _ _ vJudges hB0 (by have:vJudges.size≤30:=(by decide);omega)) ?_
 rintro _ M1 L1 ⟨hM1,hB1⟩
 have hm1:=hB1.memR List.mem_cons_self
 repeat (first | refine yy ?_ | refine yx fun _=> ?_)
 refine vR (vsteps_ok _ _ _ (hG.le hM1) bv _ _ ax.steps (hf.ok.steps.le hM1) hf.steps.2 hf.steps.1 hB1 (by have:vJudges.size≤30:=(by decide);rw [List.length_append,ba_len];omega)) (fun t M2 L2 ht hM2 hB2=> ?_) (fun ht M2 L2 N hM2 hN=> ?_)
 rotate_left
 ·exact runX_pan hC (fun _ h=>h) ⟨Mem.le_trans hM1 hM2,by rw [ht];exact ⟨rfl,_,panN hN⟩⟩
 repeat (first | refine yy ?_ | refine yx fun _=> ?_)
 obtain ⟨L9,hL9,hB9⟩:=hB2.drop
 refine run_endX hro ?_
 refine runX_ret hC (rs:= []) rfl (vs:= []) trivial (hL9 _) ⟨Mem.le_trans hM1 hM2, ?_⟩
 rw [ht]
 refine ⟨rfl, ?_⟩
 simpa using hB9
theorem vexport_ok (M:Mem) (L R:HL) (hG:G38 M) (bv:Nat) (l:List UInt8) (S:SStr) (hS:StOk M S) (ax:Ax) (hf:FitA M ax) (h:VoAt bv S.v l R L) (hz:l.length+1000000000<1099511627776) (hnz: ∀x∈S.xs,x.size<1000000):
 TrE Tryz.prog 75 [pt bv,.agg ⟨axC ax⟩] M L (vK bv S.v l R M (aft vShows (txnV S.xs ax.txn))):=by
 refine TrE.intro 11 Tryz.func75 rfl rfl Tryz.call75 rfl ?_;intro C hC hro
 refine run_seq ?_
 refine run_region ?_
 refine yx fun b3=> ?_
 refine runL_nil ?_
 have hB0:VoAt bv S.v l (acB b3 ax::R) (acB b3 ax::L):=h.cons _
 have hm0:=hB0.memR List.mem_cons_self
 repeat (first | refine yy ?_ | refine yx fun _=> ?_)
 refine oc (say1_ok _ _ _ bv _ _ _ vShows hB0 (by have:vShows.size≤30:=(by decide);omega)) ?_
 rintro _ M1 L1 ⟨hM1,hB1⟩
 have hm1:=hB1.memR List.mem_cons_self
 repeat (first | refine yy ?_ | refine yx fun _=> ?_)
 refine vR (vtxn_ok _ _ _ (hG.le hM1) bv _ S (hS.le hM1) ax.txn hf.tx.1 hf.tx.2.1 hf.tx.2.2 hB1 (fun x hx=>by
  have:=hnz x hx
  have:vShows.size≤30:=by decide
  rw [List.length_append,ba_len];omega)) (fun t M2 L2 ht hM2 hB2=> ?_) (fun ht M2 L2 N hM2 hN=> ?_)
 rotate_left
 ·exact runX_pan hC (fun _ h=>h) ⟨Mem.le_trans hM1 hM2,by rw [ht];exact ⟨rfl,_,panN hN⟩⟩
 repeat (first | refine yy ?_ | refine yx fun _=> ?_)
 obtain ⟨L9,hL9,hB9⟩:=hB2.drop
 refine run_endX hro ?_
 refine runX_ret hC (rs:= []) rfl (vs:= []) trivial (hL9 _) ⟨Mem.le_trans hM1 hM2, ?_⟩
 rw [ht]
 refine ⟨rfl, ?_⟩
 simpa using hB9
theorem vsubmit_ok (M:Mem) (L R:HL) (hG:G38 M) (bv:Nat) (l:List UInt8) (S:SStr) (hS:StOk M S) (ax:Ax) (hf:FitA M ax) (h:VoAt bv S.v l R L) (hz:l.length+1000000000<1099511627776) (hnz: ∀x∈S.xs,x.size<1000000):
 TrE Tryz.prog 68 [pt bv,.agg ⟨axC ax⟩] M L (vK bv S.v l R M (aft (if ax.yes=true then vYes else vNo) (txnV S.xs ax.txn))):=by
 refine TrE.intro 16 Tryz.func68 rfl rfl Tryz.call68 rfl ?_;intro C hC hro
 refine run_seq ?_
 refine run_region ?_
 refine yx fun b3=> ?_
 refine runL_nil ?_
 have hB0:VoAt bv S.v l (acB b3 ax::R) (acB b3 ax::L):=h.cons _
 have hm0:=hB0.memR List.mem_cons_self
 repeat (first | refine yy ?_ | refine yx fun _=> ?_)
 refine run_condI (fun σ' M' L'=>M.le M'∧VoAt bv S.v (l++(if ax.yes=true then vYes else vNo).data.toList) (acB b3 ax::R) L'∧σ'= [(3,pt b3),(0,pt bv)]) (t:=ax.yes) rfl (fun hy hk=> ?_) (fun hy hk=> ?_) ?_
 ·refine yy ?_
  refine yy ?_
  refine yx fun b6=> ?_
  refine oc (say1_ok _ _ _ bv _ _ _ vYes hB0 (by have:vYes.size≤30:=(by decide);omega)) ?_
  rintro _ M1 L1 ⟨hM1,hB1⟩
  refine yy ?_
  exact run_sub' (hk _ _ _ ⟨hM1,by rw [hy];exact hB1,rfl⟩) ⟨rfl,rfl,trivial⟩
 ·refine yy ?_
  refine yy ?_
  refine yx fun b6=> ?_
  refine oc (say1_ok _ _ _ bv _ _ _ vNo hB0 (by have:vNo.size≤30:=(by decide);omega)) ?_
  rintro _ M1 L1 ⟨hM1,hB1⟩
  refine yy ?_
  exact run_sub' (hk _ _ _ ⟨hM1,by rw [hy];exact hB1,rfl⟩) ⟨rfl,rfl,trivial⟩
 rintro _ M1 L1 ⟨hM1,hB1,rfl⟩
 have hm1:=hB1.memR List.mem_cons_self
 have hv30:(if ax.yes=true then vYes else vNo).size≤30:=by
  split
  ·decide
  ·decide
 generalize (if ax.yes=true then vYes else vNo)=vy at*
 repeat (first | refine yy ?_ | refine yx fun _=> ?_)
 refine vR (vtxn_ok _ _ _ (hG.le hM1) bv _ S (hS.le hM1) ax.txn hf.tx.1 hf.tx.2.1 hf.tx.2.2 hB1 (fun x hx=>by
  have:=hnz x hx
  rw [List.length_append,ba_len];omega)) (fun t M2 L2 ht hM2 hB2=> ?_) (fun ht M2 L2 N hM2 hN=> ?_)
 rotate_left
 ·exact runX_pan hC (fun _ h=>h) ⟨Mem.le_trans hM1 hM2,by rw [ht];exact ⟨rfl,_,panN hN⟩⟩
 repeat (first | refine yy ?_ | refine yx fun _=> ?_)
 obtain ⟨L9,hL9,hB9⟩:=hB2.drop
 refine run_endX hro ?_
 refine runX_ret hC (rs:= []) rfl (vs:= []) trivial (hL9 _) ⟨Mem.le_trans hM1 hM2, ?_⟩
 rw [ht]
 refine ⟨rfl, ?_⟩
 simpa using hB9
theorem givesV_sz {names:List ByteArray} (hn: ∀x∈names,x.size<1000000): ∀ {l:List Mb} {f:Bool} {t:ByteArray},(∀m∈l,m.digest.size<1000000)→givesV names f l=some t→t.size≤3000000*l.length
 | [],f,t,_,h=>by cases h;exact Nat.zero_le _
 | m::l,f,t,hd,h=>by
   rw [givesV] at h
   obtain ⟨o,ho,h⟩:=Option.bind_eq_some_iff.1 h
   obtain ⟨u,hu,h⟩:=Option.bind_eq_some_iff.1 h
   obtain ⟨b,hb,h⟩:=Option.bind_eq_some_iff.1 h
   cases h
   have h1:=hn o (List.mem_of_getElem? ho)
   have h2:=termV_sz (hd m List.mem_cons_self) hu
   have h3:=givesV_sz hn (fun y hy=>hd y (List.mem_cons_of_mem _ hy)) hb
   have h4:sp1.size=1:=rfl
   have h5:(if f=true then colB else semB).size=2:=by split <;> rfl
   rw [app_size,app_size,app_size,app_size,List.length_cons];omega
theorem vbegin_ok (M:Mem) (L R:HL) (bv:Nat) (l:List UInt8) (S:SStr) (hS:StOk M S) (ax:Ax) (hf:FitA M ax) (h:VoAt bv S.v l R L) (hz:l.length+1000000000<1099511627776) (hnz: ∀x∈S.xs,x.size<1000000):
 TrE Tryz.prog 67 [pt bv,.agg ⟨axC ax⟩] M L (vK bv S.v l R M (begV S.xs ax.aa)):=by
 obtain ⟨R0,hR⟩: ∃R,begV S.xs ax.aa=R:=⟨_,rfl⟩
 rw [hR]
 rw [begV] at hR
 have hg:=hf.ok.gives
 have hlen:=hg.len
 have hg6:=hf.gives.1
 refine TrE.intro 41 Tryz.func67 rfl rfl Tryz.call67 rfl ?_;intro C hC hro
 refine run_seq ?_
 refine run_region ?_
 refine yx fun b3=> ?_
 refine runL_nil ?_
 have hB0:VoAt bv S.v l (acB b3 ax::R) (acB b3 ax::L):=h.cons _
 repeat (first | refine yy ?_ | refine yx fun _=> ?_)
 refine oc (say1_ok _ _ _ bv _ _ _ vBegins hB0 (by have:vBegins.size≤30:=(by decide);omega)) ?_
 rintro _ M1 L1 ⟨hM1,hB1⟩
 have hm1:=hB1.memR List.mem_cons_self
 have hbz:vBegins.size≤30:=by decide
 repeat (first | refine yy ?_ | refine yx fun _=> ?_)
 refine runL_as 11 (iv ax.auditor.toNat) rfl (by congr 1;exact (Int.toNat_of_nonneg hf.aud.1).symm) ?_
 refine vR (vorg_ok _ _ _ bv _ S (hS.le hM1) ax.auditor.toNat hB1 (fun x hx=>by have:=hnz x hx;rw [List.length_append,ba_len];omega)) (fun o M2 L2 ho hM2 hB2=> ?_) (fun ho M2 L2 N hM2 hN=> ?_)
 rotate_left
 ·have ho':orgV S.xs ax.aa.auditor.toNat=none:=ho
  rw [ho'] at hR
  exact runX_pan hC (fun _ h=>h) ⟨Mem.le_trans hM1 hM2,by rw [←hR];exact ⟨rfl,_,panN hN⟩⟩
 have ho':orgV S.xs ax.aa.auditor.toNat=some o:=ho
 rw [ho',Option.bind_some] at hR
 have hoz:=hnz o (List.mem_of_getElem? ho)
 have hM12:=Mem.le_trans hM1 hM2
 have hm2:=hB2.memR List.mem_cons_self
 have hgs:ax.aa.gives=ax.gives.xs:=rfl
 rw [hgs] at hR
 repeat (first | refine yy ?_ | refine yx fun _=> ?_)
 refine run_loopN (fun j σ1 M3 L3=>j≤ax.gives.len∧M.le M3∧(∃t,VoAt bv S.v (l++t.data.toList) (acB b3 ax::R) L3∧t.size≤1000100+3000000*j∧R0=aft t (givesV S.xs (decide (j=0)) (ax.gives.xs.drop j)))∧σ1= [(16,iv j),(15,iv ax.gives.len),(14,ax.gives.v),(3,pt b3),(0,pt bv)]) ax.gives.len [(16,iv 0),(15,iv ax.gives.len),(14,ax.gives.v),(3,pt b3),(0,pt bv)] ?_ ⟨Nat.zero_le _,hM12,⟨vBegins++o,by simpa using hB2,by rw [app_size];omega,hR.symm⟩,rfl⟩ (fun j _ _ _ h=>h.1) ?_
 ·exact ⟨rfl,rfl,rfl,rfl,rfl,trivial⟩
 clear hB2 hm2 hR
 rintro j _ M3 L3 ⟨hj,hM3,⟨t,hB3,htz,hR⟩,rfl⟩ hnext
 repeat (first | refine yy ?_ | refine yx fun _=> ?_)
 refine run_cond (t:=decide ((j:Int)<(ax.gives.len:Int))) rfl (fun h2=> ?_) (fun h2=> ?_)
 rotate_left
 ·have hge:j=ax.gives.len:=by have:=of_decide_eq_false h2;omega
  rw [hge,List.drop_of_length_le (by omega),givesV,aft,Option.map_some,app_nil] at hR
  repeat (first | refine yy ?_ | refine yx fun _=> ?_)
  obtain ⟨L9,hL9,hB9⟩:=hB3.drop
  refine run_endX hro ?_
  exact runX_ret hC (rs:= []) rfl (vs:= []) trivial (hL9 _) ⟨hM3,by rw [hR];exact ⟨rfl,hB9⟩⟩
 have hlt:j<ax.gives.len:=by have:=of_decide_eq_true h2;omega
 obtain ⟨b,off,m,hma,hm,hc⟩:=SMb.at_ (hg.le hM3).1 hlt
 have hv:ax.gives.v= .slice (some ⟨b,off,none⟩) ax.gives.len ax.gives.cap:=by rw [←hma];rfl
 have hmf:=hf.gives.2 m (List.mem_of_getElem? hm)
 have hlx:j<ax.gives.xs.length:=(List.getElem?_eq_some_iff.1 hm).1
 rw [List.drop_eq_getElem_cons hlx,(List.getElem?_eq_some_iff.1 hm).2,givesV] at hR
 refine run_as 14 (.slice (some ⟨b,off,none⟩) ax.gives.len ax.gives.cap) rfl hv ?_
 have hmin:(if (1:Int)<(j:Int)then (1:Int)else (j:Int))=((if j=0 then 0 else 1:Nat):Int):=by
  repeat' split
  all_goals first | omega | rfl
 obtain ⟨sg,hsg⟩: ∃sg,(if decide (j=0)=true then colB else semB)=sg:=⟨_,rfl⟩
 have hld: ∀b0,ldE tt 9 (flatParts [(0,Value.string ⟨#[58,32]⟩),(1,Value.string ⟨#[59,32]⟩)]) (0+(if j=0 then 0 else 1)*b0)=some (.string sg)∨b0≠1:=fun b0=>by
  by_cases hb:b0=1
  ·subst hb
   left
   rw [←hsg]
   by_cases h0:j=0
   ·rw [if_pos h0,if_pos (by simpa using h0)];rfl
   ·rw [if_neg h0,if_neg (by simpa using h0)];rfl
  ·exact .inr hb
 have hld:=(hld 1).resolve_right (fun h=>h rfl)
 have hsz2:sg.size=2:=by rw [←hsg];split <;> rfl
 have hk2:(if j=0 then 0 else 1)<2:=by split <;> omega
 rw [hsg] at hR
 generalize hkk:(if j=0 then 0 else 1)=kk at hmin hld hk2
 repeat (first | refine yy ?_ | refine yx fun _=> ?_ | refine vq ?_ (qt_min2 rfl rfl))
 rename_i b5 b6
 have hB3':=hB3.cons (b5,.cells ⟨mbC m⟩ 57 (0,0))
 refine runL_as 24 (iv kk) rfl (congrArg (Value.int .i64) hmin) ?_
 refine vq ?_
 refine vq ?_ (qt_ld tok rfl List.mem_cons_self hld)
 refine yx fun b7=> ?_
 refine runL_mem (fun _ h=>(h.perm (List.Perm.swap _ _ _)).drop) ?_
 refine oc (say1_ok _ _ _ bv _ _ _ sg hB3' (by rw [List.length_append,ba_len];omega)) ?_
 rintro _ M4 L4 ⟨hM4,hB4⟩
 have hm4:=hB4.memR List.mem_cons_self
 repeat (first | refine yy ?_ | refine yx fun _=> ?_)
 refine runL_as 31 (iv m.org.toNat) rfl (by congr 1;exact (Int.toNat_of_nonneg hmf.1).symm) ?_
 refine vR (vorg_ok _ _ _ bv _ S (hS.le (Mem.le_trans hM3 hM4)) m.org.toNat hB4 (fun x hx=>by have:=hnz x hx;simp only [List.length_append,ba_len];omega)) (fun u M5 L5 hu hM5 hB5=> ?_) (fun hu M5 L5 N hM5 hN=> ?_)
 rotate_left
 ·rw [hu] at hR
  exact runX_pan hC (fun _ h=>h) ⟨Mem.le_trans hM3 (Mem.le_trans hM4 hM5),by rw [hR];exact ⟨rfl,_,panN (panN hN)⟩⟩
 rw [hu,Option.bind_some] at hR
 have huz:=hnz u (List.mem_of_getElem? hu)
 repeat (first | refine yy ?_ | refine yx fun _=> ?_)
 refine oc (say1_ok _ _ _ bv _ _ _ sp1 hB5 (by have:sp1.size=1:=rfl;simp only [List.length_append,ba_len];omega)) ?_
 rintro _ M6 L6 ⟨hM6,hB6⟩
 have hM36:=Mem.le_trans hM3 (Mem.le_trans hM4 (Mem.le_trans hM5 hM6))
 have hm6:=hB6.memR List.mem_cons_self
 have h1s:sp1.size=1:=rfl
 repeat (first | refine yy ?_ | refine yx fun _=> ?_)
 refine vR (vterm_ok _ _ _ bv _ _ m.digest hmf.2.2 hB6 (by simp only [List.length_append,ba_len];omega)) (fun w M7 L7 hw hM7 hB7=> ?_) (fun hw M7 L7 N hM7 hN=> ?_)
 rotate_left
 ·rw [hw] at hR
  exact runX_pan hC (fun _ h=>h) ⟨Mem.le_trans hM36 hM7,by rw [hR];exact ⟨rfl,_,panN (panN hN)⟩⟩
 rw [hw,Option.bind_some,aft_bind] at hR
 have hwz:=termV_sz hmf.2.2 hw
 obtain ⟨L8,hL8,hB8⟩:=hB7.drop
 repeat (first | refine yy ?_ | refine yx fun _=> ?_)
 refine run_mem (hL8 _) (run_sub' (hnext _ _ _ ⟨hlt,Mem.le_trans hM36 hM7,⟨_, ?_, ?_,hR⟩,rfl⟩) ⟨lk_succ rfl (by omega),rfl,by rw [hv];rfl,rfl,rfl,trivial⟩)
 ·simpa using hB8
 ·simp only [app_size];omega
theorem vString1_ok (M:Mem) (R N:HL) (b:Nat) (nv p v:Value) (l:List UInt8) (hO:BdF v l N) (h0:l≠ []) (hz:l.length<1099511627776):
 Tr Tryz.prog 36 [pt1 b] M ((b,voO nv p v)::(N++R)) (fun w M' L1=>M=M'∧w= .string ⟨l.toArray⟩∧ ∃N',L1=(b,voO nv p v)::(N'++R)):=by
 obtain ⟨b2,cap,cs,fz,rfl,rfl,h1,h2⟩:=hO
 have hl0:l.length≠0:=fun h=>h0 (List.length_eq_zero_iff.1 h)
 refine Tr.intro 14 Tryz.func36 rfl rfl Tryz.call36 rfl ?_;intro C hC hro
 repeat (first | refine zz ?_ | refine zx fun _=> ?_ | refine dd ?_ | refine dz ?_ | refine dx fun _=> ?_ | refine pq rfl (qt_sliceData rfl (by omega)) ?_ | (refine pe rfl (st_unsafeString tok rfl rfl rfl rfl rfl hl0 (by omega) h2 (Upd.there _ (Upd.here _ _ _ _))) ?_;rintro _ _ _ ⟨rfl,rfl,rfl⟩))
 exact run_ret hC (rs:= [.tmp 2]) rfl (resT rfl resN) (fun _ h=>h) ⟨rfl,rfl,[_],rfl⟩
theorem vStr_ok (M:Mem) (L R:HL) (b:Nat) (nv:Value) (s:ByteArray) (h:VoAt b nv s.data.toList R L) (h0:1≤s.size) (hz:s.size<1099511627776):
 Tr Tryz.prog 36 [pt1 b] M L (fun w M' L'=>M=M'∧w= .string s∧ ∃N,L'.Perm (N++R)):=by
 have hl:=ba_len s
 obtain ⟨p,v,N,hp,hL,hO⟩:=h
 have hne:s.data.toList≠ []:=fun h=>by rw [h] at hl;simp at hl;omega
 refine Tr.perm (vString1_ok M R N b nv p v _ (hO.f hne) hne (by omega)) (hL.trans List.perm_middle) ?_
 rintro w M' _ ⟨rfl,rfl,N',rfl⟩
 exact ⟨_,List.Perm.refl _,rfl,rfl,(b,voO nv p v)::N',List.Perm.refl _⟩
def fnV (f:FuncId):Value:= .func (.func f) ⟨[]⟩ ⟨[]⟩
def vbK:KV Int:= [(1,fnV 67,0),(2,fnV 68,1),(3,fnV 69,2),(8,fnV 70,3),(6,fnV 71,4),(7,fnV 72,5),(5,fnV 73,6),(10,fnV 74,7),(9,fnV 75,8)]
def kV8 (n:Int):Value:= .int .u8 n
theorem keyV8:KeyLaw Tryz.prog 5 kV8:=keyInt tok rfl
abbrev vbB (b:Nat):Nat×Obj:=(b,.map ⟨ents kV8 vbK⟩ 9)
theorem verbs_ok (M:Mem) (L:HL):Tr Tryz.prog 32 [] M L (fun v M' L'=>M=M'∧ ∃b,v= .map (some b)∧L'=vbB b::L):=by
 refine Tr.intro 3 Tryz.func32 rfl rfl Tryz.call32 rfl ?_;intro C hC hro
 repeat (first | refine yy ?_ | refine yx fun _=> ?_ | (refine runL_op (st_makeMapE kV8) rfl rfl rfl ?_;rintro _ _ _ ⟨bm,rfl,rfl,rfl⟩) | (refine runL_op0 (st_mapUpdate tok keyV8 (.inr rfl) rfl rfl rfl rfl rfl (by (repeat (first | with_reducible apply Upd.here | with_reducible apply Upd.there | with_reducible apply Upd.append_left)))) ?_;rintro _ _ _ ⟨rfl,rfl,rfl⟩))
 exact run_ret hC (rs:= [.tmp 0]) rfl (resT rfl resN) (fun _ h=>h) ⟨rfl,_,rfl,rfl⟩
theorem verb_at {d:Int} (h1:1≤d) (h10:d≤10) (h4:d≠4) {M:Mem} {ax:Ax} (hd:ax.do_=d) {S:SStr} :
 ∃f,kvGet vbK d=some (fnV f)∧(FitA M ax→StOk M S→G38 M→(∀x∈S.xs,x.size<1000000)→ ∀(L R:HL) (bv:Nat) (l:List UInt8),VoAt bv S.v l R L→l.length+1000000000<1099511627776→TrE Tryz.prog f [pt bv,.agg ⟨axC ax⟩] M L (vK bv S.v l R M (verbV S.xs ax.aa))):=by
 have hv: ∀o,verbV S.xs ax.aa=o→ax.aa.do_=d:=fun _ _=>hd
 have hdd:ax.aa.do_=d:=hd
 have:d=1∨d=2∨d=3∨d=5∨d=6∨d=7∨d=8∨d=9∨d=10:=by omega
 rcases this with rfl | rfl | rfl | rfl | rfl | rfl | rfl | rfl | rfl
 ·exact ⟨_,rfl,fun hf hS hG hn L R bv l h hz=>by rw [verbV,hdd];exact vbegin_ok M L R bv l S hS ax hf h hz hn⟩
 ·exact ⟨_,rfl,fun hf hS hG hn L R bv l h hz=>by rw [verbV,hdd];exact vsubmit_ok M L R hG bv l S hS ax hf h hz hn⟩
 ·exact ⟨_,rfl,fun hf hS hG hn L R bv l h hz=>by rw [verbV,hdd];exact vtick_ok M L R hG bv l S hS ax hf h hz hn⟩
 ·exact ⟨_,rfl,fun hf hS hG hn L R bv l h hz=>by rw [verbV,hdd];exact vinject_ok M L R hG bv l S hS ax hf h hz hn⟩
 ·exact ⟨_,rfl,fun hf hS hG hn L R bv l h hz=>by rw [verbV,hdd];exact varm_ok M L R hG bv l S hS ax hf h hz hn⟩
 ·exact ⟨_,rfl,fun hf hS hG hn L R bv l h hz=>by rw [verbV,hdd];exact vcrash_ok M L R hG bv l S hS ax hf h hz hn⟩
 ·exact ⟨_,rfl,fun hf hS hG hn L R bv l h hz=>by rw [verbV,hdd];exact vanew_ok M L R hG bv l S hS ax hf h hz hn⟩
 ·exact ⟨_,rfl,fun hf hS hG hn L R bv l h hz=>by rw [verbV,hdd];exact vexport_ok M L R hG bv l S hS ax hf h hz hn⟩
 ·exact ⟨_,rfl,fun hf hS hG hn L R bv l h hz=>by rw [verbV,hdd];exact vpresent_ok M L R hG bv l S hS ax hf h hz hn⟩
theorem rIn {n:Int} (h:orgW n=true):0≤n∧n≤7:=by simp [orgW] at h;omega
theorem nIn {n:Int} (h:nmW n=true):0≤n∧n≤2147483647:=by simp [nmW] at h;omega
structure FitP (a:Aa):Prop where
 do_:1≤a.do_∧a.do_≤10
 org:0≤a.org∧a.org≤7
 aud:0≤a.auditor∧a.auditor≤7
 n:0≤a.n∧a.n≤2147483647
 tx:0≤a.txn.coord∧(0≤a.txn.epoch∧a.txn.epoch≤9223372036854775807)∧(0≤a.txn.seq∧a.txn.seq≤9223372036854775807)
 gives:a.gives.length≤6∧ ∀m∈a.gives,GvP m
 steps:a.steps.length≤64∧ ∀x∈a.steps,SpP x
theorem txIn {t:Tx} (h:mayTx t=true):0≤t.coord∧(0≤t.epoch∧t.epoch≤9223372036854775807)∧(0≤t.seq∧t.seq≤9223372036854775807):=by
 simp only [mayTx,orgW,Bool.and_eq_true,decide_eq_true_eq] at h
 omega
theorem tz_in:0≤tz.coord∧(0≤tz.epoch∧tz.epoch≤9223372036854775807)∧(0≤tz.seq∧tz.seq≤9223372036854775807):=by decide
theorem AcP.fit {a:Aa} (h:AcP a):FitP a:=by
 have hg0:([]:List Mb).length≤6∧ ∀m∈([]:List Mb),GvP m:=⟨by decide,fun _ h=>by cases h⟩
 have hs0:([]:List Sp).length≤64∧ ∀x∈([]:List Sp),SpP x:=⟨by decide,fun _ h=>by cases h⟩
 have h07:(0:Int)≤0∧(0:Int)≤7:=by decide
 have h0n:(0:Int)≤0∧(0:Int)≤2147483647:=by decide
 cases h with
 | begin_ o au g h1 h2 h3 h4=>exact ⟨by simp,rIn h1,rIn h2,h0n,tz_in,⟨h3,h4⟩,hs0⟩
 | submit o t y h1 h2=>exact ⟨by simp,rIn h1,h07,h0n,txIn h2,hg0,hs0⟩
 | tick o h1=>exact ⟨by simp,rIn h1,h07,h0n,tz_in,hg0,hs0⟩
 | deliver n h1=>exact ⟨by simp,h07,h07,nIn h1,tz_in,hg0,hs0⟩
 | inject o l h1 h2 h3=>exact ⟨by simp,rIn h1,h07,h0n,tz_in,hg0,⟨h2,h3⟩⟩
 | arm o n h1 h2=>exact ⟨by simp,rIn h1,h07,nIn h2,tz_in,hg0,hs0⟩
 | crash o n h1 h2=>exact ⟨by simp,rIn h1,h07,nIn h2,tz_in,hg0,hs0⟩
 | restart o h1=>exact ⟨by simp,rIn h1,h07,h0n,tz_in,hg0,hs0⟩
 | exprt o t h1 h2=>exact ⟨by simp,rIn h1,h07,h0n,txIn h2,hg0,hs0⟩
 | present o l h1 h2 h3=>exact ⟨by simp,rIn h1,h07,h0n,tz_in,hg0,⟨h2,h3⟩⟩
theorem FitP.at_ {M:Mem} {ax:Ax} (h:FitP ax.aa) (hok:AxOk M ax):FitA M ax where
 ok:=hok
 org:=h.org
 aud:=h.aud
 n:=h.n
 tx:=h.tx
 gives:=⟨h.gives.1,fun m hm=>by
  obtain ⟨h1,h2⟩:=h.gives.2 m hm
  have hsz:=hok.pay m hm
  have:=((mayB_iff (by omega)).1 (by rw [mayB,h2];rfl:mayB m.digest=true)).2
  exact ⟨(rIn h1).1,(rIn h1).2,by omega⟩⟩
 steps:=⟨by have:=h.steps.1;simpa [Ax.aa] using this,h.steps.2⟩
def lineV (names:List ByteArray) (a:Aa):Option ByteArray:=if a.do_=4 then some ((wPost++dgB a.n)++wComes)else (orgV names a.org.toNat).bind fun o=>aft o (verbV names a)
def lineA (names:List ByteArray) (a:Aa):ByteArray×Int:=
 if rollB names=true∧chkS a=0 then match lineV names a with
   | some t=>(t,0)
   | none=>(⟨#[]⟩,2)
 else (⟨#[]⟩,2)
theorem aft_pos {t u:ByteArray} {o:Option ByteArray} (h:aft t o=some u) (ht:1≤t.size):1≤u.size:=by
 obtain ⟨w,_,rfl⟩:=Option.map_eq_some_iff.1 h
 rw [app_size];omega
theorem verbV_pos {names:List ByteArray} {a:Aa} {t:ByteArray} (h:verbV names a=some t):1≤t.size:=by
 unfold verbV at h
 split at h
 ·rw [begV] at h
  obtain ⟨o,_,h⟩:=Option.bind_eq_some_iff.1 h
  exact aft_pos h (by rw [app_size];have:vBegins.size=12:=rfl;omega)
 split at h
 ·exact aft_pos h (by split <;> decide)
 split at h
 ·cases h;decide
 split at h
 ·cases h;decide
 split at h
 ·cases h;rw [app_size];have:vStops.size=14:=rfl;omega
 split at h
 ·cases h;rw [app_size];have:vCrash.size=19:=rfl;omega
 split at h
 ·exact aft_pos h (by decide)
 split at h
 ·exact aft_pos h (by decide)
 ·exact aft_pos h (by decide)
theorem txnV_sz {names:List ByteArray} (hn: ∀x∈names,x.size<1000000) {t:Tx} (h1:t.epoch≤9223372036854775807) (h2:t.seq≤9223372036854775807) {u:ByteArray} (h:txnV names t=some u):u.size≤1000100:=by
 obtain ⟨o,ho,rfl⟩:=Option.map_eq_some_iff.1 h
 have:=hn o (List.mem_of_getElem? ho)
 have:=dgB_sz h1
 have:=dgB_sz h2
 have:slB.size=1:=rfl
 simp only [app_size];omega
theorem aft_sz {t u:ByteArray} {o:Option ByteArray} {k:Nat} (h:aft t o=some u) (ho: ∀w,o=some w→w.size≤k):u.size≤t.size+k:=by
 obtain ⟨w,hw,rfl⟩:=Option.map_eq_some_iff.1 h
 have:=ho w hw
 rw [app_size];omega
theorem verbV_sz {names:List ByteArray} (hn: ∀x∈names,x.size<1000000) {a:Aa} (hf:FitP a) (hd: ∀m∈a.gives,m.digest.size<1000000) {t:ByteArray} (h:verbV names a=some t):t.size≤100000000:=by
 have hst: ∀w,stepsV a.steps=some w→w.size≤90000000:=fun w hw=>stepsV_sz hf.steps.1 hf.steps.2 hw
 have htx: ∀w,txnV names a.txn=some w→w.size≤1000100:=fun w hw=>txnV_sz hn hf.tx.2.1.2 hf.tx.2.2.2 hw
 have hdn:=dgB_sz (n:=a.n) (by have:=hf.n.2;omega)
 unfold verbV at h
 split at h
 ·rw [begV] at h
  obtain ⟨o,ho,h⟩:=Option.bind_eq_some_iff.1 h
  have:=aft_sz h (fun w hw=>givesV_sz hn hd hw)
  have:=hn o (List.mem_of_getElem? ho)
  have:vBegins.size=12:=rfl
  have:=hf.gives.1
  rw [app_size] at*;omega
 split at h
 ·have:=aft_sz h htx
  have:(if a.yes=true then vYes else vNo).size≤30:=by split <;> decide
  omega
 split at h
 ·cases h;decide
 split at h
 ·cases h;decide
 split at h
 ·cases h;rw [app_size];have:vStops.size=14:=rfl;omega
 split at h
 ·cases h;rw [app_size];have:vCrash.size=19:=rfl;omega
 split at h
 ·have:=aft_sz h hst;have:vGets.size=6:=rfl;omega
 split at h
 ·have:=aft_sz h hst;have:vJudges.size=8:=rfl;omega
 ·have:=aft_sz h htx;have:vShows.size=7:=rfl;omega
theorem lineV_sz {names:List ByteArray} (hn: ∀x∈names,x.size<1000000) {a:Aa} (hf:FitP a) (hd: ∀m∈a.gives,m.digest.size<1000000) {t:ByteArray} (h:lineV names a=some t):1≤t.size∧t.size≤110000000:=by
 unfold lineV at h
 split at h
 ·cases h
  have h1:=dgB_sz (n:=a.n) (by have:=hf.n.2;omega)
  have h2:wPost.size=5:=rfl
  have h3:wComes.size=6:=rfl
  rw [app_size,app_size];omega
 ·obtain ⟨o,ho,h⟩:=Option.bind_eq_some_iff.1 h
  obtain ⟨w,hw,rfl⟩:=Option.map_eq_some_iff.1 h
  have h1:=hn o (List.mem_of_getElem? ho)
  have h2:=verbV_pos hw
  have h3:=verbV_sz hn hf hd hw
  rw [app_size];omega
abbrev stB (b:Nat) (t:ByteArray):Nat×Obj:=(b,.cells ⟨[.string t]⟩ 9 (0,0))
theorem tline_ok (M:Mem) (L:HL) (hG:G38 M) (S:SStr) (hS:StOk M S) (hcap:S.len≤S.cap) (hnz: ∀x∈S.xs,x.size<1000000) (ax:Ax) (hax:AxOk M ax):TrQ Tryz.prog 11 [S.v,.agg ⟨axC ax⟩] M L (.tuple ⟨[.string (lineA S.xs ax.aa).1,.int .i64 (lineA S.xs ax.aa).2]⟩):=by
 refine TrE.tr (K:=fun en M' L'=>en= .returned (.tuple ⟨[.string (lineA S.xs ax.aa).1,.int .i64 (lineA S.xs ax.aa).2]⟩)∧M=M'∧L=L') ?_ (fun e M' L' ⟨h1,h2,h3⟩=>⟨_,h1,rfl,h2.symm,h3.symm⟩)
 have hck:=hax.chk
 have hroll:=fun L=>roll_ok M L S hS hcap hnz
 refine TrE.intro 47 Tryz.func11 rfl rfl Tryz.call11 rfl ?_;intro C hC hro
 refine run_seq ?_
 refine run_region ?_
 refine yx fun b3=> ?_
 refine yx fun b4=> ?_
 refine yx fun b5=> ?_
 refine runL_nil ?_
 by_cases hr:rollB S.xs=true
 rotate_left
 ·have hla:lineA S.xs ax.aa=(⟨#[]⟩,2):=by rw [lineA,if_neg (fun h=>hr h.1)]
  rw [if_neg hr] at hroll
  repeat (first | refine zc ?_ | refine vq ?_)
  refine qc (hroll _) ?_
  repeat (first | refine yk ?_ | refine yx fun _=> ?_)
  refine run_cond rfl (fun _=> ?_) (fun h=>by cases h)
  repeat (first | refine yy ?_ | refine yx fun _=> ?_)
  refine run_retX hro ?_
  exact runX_ret hC (rs:= [.cell 4 9,.cell 5 29]) rfl (rl tok rfl (rl tok rfl resN)) (fun _ h=>h.drop.drop.drop) ⟨by rw [hla];rfl,rfl,rfl⟩
 rw [if_pos hr] at hroll
 by_cases hk:chkS ax.aa=0
 rotate_left
 ·have hla:lineA S.xs ax.aa=(⟨#[]⟩,2):=by rw [lineA,if_neg (fun h=>hk h.2)]
  have hk2:chkA ax=2:=(chkA_or ax).resolve_left (fun h=>hk (by rw [←hck,h]))
  have hchk:=fun L=>scheck_ok M L ax hax
  rw [hk2] at hchk
  repeat (first | refine zc ?_ | refine vq ?_)
  refine qc (hroll _) ?_
  repeat (first | refine yk ?_ | refine yx fun _=> ?_)
  refine kc (hchk _) ?_
  repeat (first | refine yk ?_ | refine yx fun _=> ?_)
  refine run_cond rfl (fun _=> ?_) (fun h=>by cases h)
  repeat (first | refine yy ?_ | refine yx fun _=> ?_)
  refine run_retX hro ?_
  exact runX_ret hC (rs:= [.cell 4 9,.cell 5 29]) rfl (rl tok rfl (rl tok rfl resN)) (fun _ h=>h.drop.drop.drop) ⟨by rw [hla];rfl,rfl,rfl⟩
 have hk0:chkA ax=0:=by rw [hck,hk]
 have hchk:=fun L=>scheck_ok M L ax hax
 rw [hk0] at hchk
 have hac:=(chkS_iff _).1 hk
 have hfp:=hac.fit
 have hfa:=hfp.at_ hax
 have hdz: ∀m∈ax.aa.gives,m.digest.size<1000000:=fun m hm=>(hfa.gives.2 m hm).2.2
 obtain ⟨R,hR⟩: ∃R,lineV S.xs ax.aa=R:=⟨_,rfl⟩
 have hla0:R=none→lineA S.xs ax.aa=(⟨#[]⟩,2):=fun h=>by rw [lineA,if_pos ⟨hr,hk⟩,hR.trans h]
 have hla1: ∀t,R=some t→lineA S.xs ax.aa=(t,0):=fun t h=>by rw [lineA,if_pos ⟨hr,hk⟩,hR.trans h]
 repeat (first | refine zc ?_ | refine vq ?_)
 refine qc (hroll _) ?_
 repeat (first | refine yk ?_ | refine yx fun _=> ?_)
 refine kc (hchk _) ?_
 repeat (first | refine yk ?_ | refine yx fun _=> ?_)
 refine run_cond rfl (fun h=>by cases h) (fun _=> ?_)
 repeat (first | refine yy ?_ | refine yx fun _=> ?_)
 have hthrow: ∀(M1:Mem) (L1 N:HL),M.le M1→L1.Perm (N++erN_ b5 0::stB b4 ⟨#[]⟩::acB b3 ax::L)→R=none→RunX Tryz.prog C 47 (.panicking panT) [⟨.fn (.func 30) ⟨[pt b4,pt b5]⟩,#[]⟩] [(5,pt b5),(4,pt b4)] M1 L1:=by
  intro M1 L1 N hM1 hN hno
  refine runX_defer (args:= [pt b4,pt b5]) 4 (by simp) Tryz.func30 rfl rfl Tryz.call30 rfl rfl ?_
  intro a0 k0 q1 q2 q3
  refine run_mem (fun _ h=>(h.perm hN).dropAll) ?_
  refine run_seq ?_
  refine run_region ?_
  refine runL_recover rfl rfl rfl ?_
  refine qc (ucaught_ok _ _) ?_
  repeat (first | refine yy ?_ | refine yx fun _=> ?_)
  refine run_cond rfl (fun _=> ?_) (fun h=>by cases h)
  repeat (first | refine yy ?_ | refine yx fun _=> ?_)
  refine run_endX rfl ?_
  refine runX_dret Tryz.func30 rfl q1 q2 q3 ?_
  show RunX _ _ _ .returning _ _ _ _
  exact runX_ret hC (rs:= [.cell 4 9,.cell 5 29]) rfl (rl tok rfl (rl tok rfl resN)) (fun _ h=>(h.drop.drop.drop).of_le hM1) ⟨by rw [hla0 hno];rfl,rfl,rfl⟩
 refine runL_defer hro rfl rfl ?_
 repeat (first | refine yy ?_ | refine yx fun _=> ?_)
 rename_i bv
 have hB0:VoAt bv S.v [] (erN_ b5 0::stB b4 ⟨#[]⟩::acB b3 ax::L) ((bv,voO S.v (.pointer none) (.slice none 0 0))::erN_ b5 0::stB b4 ⟨#[]⟩::acB b3 ax::L):=⟨_,_,[],.inl rfl,List.Perm.refl _,bdS_nil⟩
 obtain ⟨z,hz⟩: ∃z,zeroT tt 71=some z:=⟨_,rfl⟩
 obtain ⟨fv,hres,hfv⟩: ∃fv,lookRes true (kvGet vbK ax.do_) z= .tuple ⟨[fv,.bool (!decide (ax.do_=4))]⟩∧(ax.do_≠4→ ∃f,fv=fnV f∧ ∀(M:Mem),FitA M ax→StOk M S→G38 M→(∀x∈S.xs,x.size<1000000)→ ∀(L R:HL) (bv:Nat) (l:List UInt8),VoAt bv S.v l R L→l.length+1000000000<1099511627776→TrE Tryz.prog f [pt bv,.agg ⟨axC ax⟩] M L (vK bv S.v l R M (verbV S.xs ax.aa))):=by
  by_cases h4:ax.do_=4
  ·exact ⟨z,by rw [h4];rfl,fun h=>absurd h4 h⟩
  ·obtain ⟨f,h1,_⟩:=verb_at (M:=M) (S:=S) hfp.do_.1 hfp.do_.2 h4 rfl
   have h1:kvGet vbK ax.do_=some (fnV f):=h1
   refine ⟨fnV f,by rw [h1,decide_eq_false h4];rfl,fun _=>⟨f,rfl,fun M'=> ?_⟩⟩
   obtain ⟨f',h1',h2'⟩:=verb_at (M:=M') (S:=S) hfp.do_.1 hfp.do_.2 h4 (ax:=ax) rfl
   have e:=Option.some.inj (h1.symm.trans h1')
   injection e with e
   injection e with e
   subst e
   exact h2'
 refine dd ?_
 refine pr_q 1 (by decide+kernel) rfl (qt_pev tok rfl) rfl rfl rfl ?_
 refine pr_q 2 (by decide+kernel) rfl (ql tok rfl) rfl rfl rfl ?_
 refine pr_one 0 (by decide+kernel) (eff1 0 rfl (st_callF rfl (fun _=>verbs_ok _ _)) (by decide+kernel) rfl rfl rfl rfl ?_)
 rintro _ _ _ ⟨rfl,bm,rfl,rfl⟩
 refine ⟨by (repeat (first | exact trivial | refine And.intro (pend_q rfl rfl rfl (by first | refine qt_pev tok rfl | refine ql tok rfl | refine qt_indexN tok rfl rfl rfl rfl (fun hy=>by first | assumption | omega | (have h0:=hy.1;simp at h0;omega)) | refine qt_index tok rfl rfl rfl rfl (fun _=>by decide) | refine qt_ldM tok rfl (by first | assumption | exact Cells.le (by assumption) (by assumption)) rfl | refine qt_ldM0 tok rfl (by first | assumption | exact Cells.le (by assumption) (by assumption)) rfl | refine qt_strIndex tok rfl rfl rfl (fun _=>by assumption) | refine qt_strIndex (n:=0) tok rfl rfl rfl (fun _=>by assumption) | refine qt_strLo tok rfl rfl rfl (fun hy=>by first | assumption | omega | (have h0:=hy.1;simp at h0;omega)) | refine qt_strHi tok rfl rfl rfl (fun hy=>by first | assumption | omega | (have h0:=hy.1;simp at h0;omega)) | refine qt_strMid tok rfl rfl rfl rfl (fun hy=>by first | assumption | omega | (have h0:=hy.1;simp at h0;omega)) | refine qt_concat rfl rfl (by first | assumption | omega | (simp only [app_size] at*;omega)) | refine qt_shr rfl rfl (fun _=>by decide) | refine qt_makeIfaceC tok rfl rfl rfl | refine qt_assertC tok rfl rfl rfl | refine qt_assertCk tok rfl rfl rfl)) ?_)), ?_⟩
 refine pr_q 3 (by decide+kernel) rfl (hres▸qt_lookup tok keyV8 rfl rfl rfl (a:=ax.do_) rfl (.inl List.mem_cons_self) hz) rfl rfl rfl ?_
 iterate 1 refine pr_q 4 (by decide+kernel) rfl (qt_pev tok rfl) rfl rfl rfl ?_
 refine pr_q 5 (by decide+kernel) rfl (qt_pev tok rfl) rfl rfl rfl ?_
 refine pr_q 6 (by decide+kernel) rfl (qt_pev tok rfl) rfl rfl rfl ?_
 refine pr_q 7 (by decide+kernel) rfl (qt_pev tok rfl) rfl rfl rfl ?_
 refine pr_q 8 (by decide+kernel) rfl (qt_pev tok rfl) rfl rfl rfl ?_
 refine pr_end (by decide+kernel) (by decide+kernel) ?_
 refine run_mem (fun _ h=>h.drop) ?_
 have hm3:acB b3 ax∈erN_ b5 0::stB b4 ⟨#[]⟩::acB b3 ax::L:=List.mem_cons_of_mem _ (List.mem_cons_of_mem _ List.mem_cons_self)
 obtain ⟨Rv,hRv⟩: ∃Rv,erN_ b5 0::stB b4 ⟨#[]⟩::acB b3 ax::L=Rv:=⟨_,rfl⟩
 have hbeg:VoAt bv S.v (⟨#[]⟩:ByteArray).data.toList Rv ((bv,voO S.v (.pointer none) (.slice none 0 0))::Rv):=by rw [←hRv];exact hB0
 rw [hRv] at hm3
 refine run_mem (L':=(bv,voO S.v (.pointer none) (.slice none 0 0))::Rv) (fun _ h=>by rw [←hRv];exact h) ?_
 generalize (bv,voO S.v (.pointer none) (.slice none 0 0))::Rv=Lv at hbeg
 have hm3v:=hbeg.memR hm3
 repeat (first | refine yy ?_ | refine yx fun _=> ?_)
 refine run_condI (fun σ' M' L'=> ∃t,R=some t∧M.le M'∧VoAt bv S.v t.data.toList Rv L'∧σ'= [(6,pt bv),(5,pt b5),(4,pt b4)]) (t:= !decide (ax.do_=4)) rfl (fun h4 hk=> ?_) (fun h4 hk=> ?_) ?_
 ·have hd4:ax.do_≠4:=by simpa using h4
  obtain ⟨f,rfl,hf⟩:=hfv hd4
  rw [lineV,if_neg (show ¬ax.aa.do_=4 from hd4)] at hR
  repeat (first | refine yy ?_ | refine yx fun _=> ?_)
  refine runL_as 31 (iv ax.org.toNat) rfl (by congr 1;exact (Int.toNat_of_nonneg hfp.org.1).symm) ?_
  refine vR (vorg_ok _ _ _ bv _ S hS ax.org.toNat hbeg (fun x hx=>by have:=hnz x hx;show 0+_<_;omega)) (fun o M1 L1 ho hM1 hB1=> ?_) (fun ho M1 L1 N hM1 hN=> ?_)
  rotate_left
  ·have ho':orgV S.xs ax.aa.org.toNat=none:=ho
   rw [ho'] at hR
   exact runX_sub (hthrow M1 L1 N hM1 (by rw [hRv];exact hN) hR.symm) ⟨rfl,rfl,trivial⟩
  have ho':orgV S.xs ax.aa.org.toNat=some o:=ho
  rw [ho',Option.bind_some] at hR
  have hoz:=hnz o (List.mem_of_getElem? ho)
  have hm1:=hB1.memR hm3
  repeat (first | refine yy ?_ | refine yx fun _=> ?_)
  refine runL_callVE rfl rfl (hf M1 (hfp.at_ (hax.le hM1)) (hS.le hM1) (hG.le hM1) hnz _ _ bv _ hB1 (by simp only [List.length_append,ba_len];show 0+_+_<_;omega)) rfl rfl rfl ?_ ?_
  rotate_left
  ·rintro ch M2 L2 ⟨hM2,hv⟩
   split at hv
   ·cases hv.1
   rename_i hvn
   obtain ⟨hv,N,hN⟩:=hv
   cases hv
   rw [hvn] at hR
   exact runX_sub (hthrow M2 L2 N (Mem.le_trans hM1 hM2) (by rw [hRv];exact hN) hR.symm) ⟨rfl,rfl,trivial⟩
  rintro v M2 L2 ⟨hM2,hv⟩
  split at hv
  rotate_left
  ·cases hv.1
  rename_i t hvn
  obtain ⟨hv,hB2⟩:=hv
  rw [hvn] at hR
  refine yy ?_
  exact run_sub' (hk _ _ _ ⟨o++t,hR.symm,Mem.le_trans hM1 hM2,by simpa using hB2,rfl⟩) ⟨rfl,rfl,rfl,trivial⟩
 ·have hd4:ax.do_=4:=by simpa using h4
  rw [lineV,if_pos (show ax.aa.do_=4 from hd4)] at hR
  have hi:=itoa_ok M Lv ax.n.toNat (by have:=hfp.n;show (Ax.n ax).toNat<_;have h2:ax.n≤2147483647:=hfp.n.2;omega) hG
  rw [Int.toNat_of_nonneg (show 0≤ax.n from hfp.n.1)] at hi
  have hdn:=dgB_sz (n:=ax.n) (by have h2:ax.n≤2147483647:=hfp.n.2;omega)
  repeat (first | refine zc ?_ | refine vq ?_)
  refine qc hi ?_
  refine yx fun b7=> ?_
  refine oc (say_ok _ _ _ bv _ _ _ [wPost,dgB ax.n,wComes] _ 3 rfl rfl (by decide) hbeg (by have h1:wPost.size=5:=rfl;have h2:wComes.size=6:=rfl;simp only [cat,app_size];rw [h1,h2];show 0+(_+(_+(_+0)))<_;omega)) ?_
  rintro _ M2 L2 ⟨hM2,hB2⟩
  refine yy ?_
  exact run_sub' (hk _ _ _ ⟨_,hR.symm,hM2,by simpa [cat,Ax.aa] using hB2,rfl⟩) ⟨rfl,rfl,rfl,trivial⟩
 rintro _ M1 L1 ⟨t,hRt,hM1,hB1,rfl⟩
 obtain ⟨ht1,ht2⟩:=lineV_sz hnz hfp hdz (hR.trans hRt)
 repeat (first | refine yy ?_ | refine yx fun _=> ?_)
 refine oc (vStr_ok _ _ _ bv _ t hB1 ht1 (by omega)) ?_
 rintro _ _ L2 ⟨rfl,rfl,N,hN⟩
 rw [←hRv] at hN
 refine runL_mem (fun _ h=>(h.perm hN).dropAll) ?_
 have hle:=hla1 t hRt
 repeat (first | refine yy ?_ | refine yx fun _=> ?_)
 refine run_retX hro ?_
 refine runX_sub (σ':= [(5,pt b5),(4,pt b4)]) ?_ ⟨rfl,rfl,trivial⟩
 refine runX_defer (args:= [pt b4,pt b5]) 4 (by simp) Tryz.func30 rfl rfl Tryz.call30 rfl rfl ?_
 intro a0 k0 q1 q2 q3
 refine run_seq ?_
 refine run_region ?_
 refine runL_recover0 rfl rfl rfl ?_
 refine qc (ucaught0_ok _ _) ?_
 repeat (first | refine yy ?_ | refine yx fun _=> ?_)
 refine run_cond rfl (fun h=>by cases h) (fun _=> ?_)
 repeat (first | refine yy ?_ | refine yx fun _=> ?_)
 refine run_endX rfl ?_
 refine runX_dret Tryz.func30 rfl q1 q2 q3 ?_
 show RunX _ _ _ .returning _ _ _ _
 exact runX_ret hC (rs:= [.cell 4 9,.cell 5 29]) rfl (rl tok rfl (rl tok rfl resN)) (fun _ h=>(h.drop.drop.drop).of_le hM1) ⟨by rw [hle];rfl,rfl,rfl⟩
open Go.Chi Go.Lib Go.RowKit Go.Sort
def nlN (l:List UInt8):Nat:=(l.takeWhile fun b=>b !=10).length
theorem index_nl: ∀l:List UInt8,indexByte l 10=if nlN l<l.length then ((nlN l:Nat):Int)else-1
 | []=>rfl
 | b::l=>by
   have ih:=index_nl l
   have hn:nlN (b::l)=if b=10 then 0 else nlN l+1:=by
    unfold nlN
    rw [List.takeWhile_cons]
    by_cases h:b=10 <;> simp [h]
   rw [indexByte,ih,hn,List.length_cons]
   by_cases h:b=10
   ·simp [h]
   ·have hb:(b==10)=false:=by simpa using h
    simp only [hb,Bool.false_eq_true,if_false,h]
    by_cases h2:nlN l<l.length
    ·rw [if_pos h2,if_neg (by simp only [beq_iff_eq];omega),if_pos (by omega)];rfl
    ·rw [if_neg h2,if_pos (by rfl),if_neg (by omega)]
def cutR (s:ByteArray):ByteArray×ByteArray×Bool:=if nlN s.data.toList<s.size then (s.extract 0 (nlN s.data.toList),s.extract (nlN s.data.toList+1) s.size,true)else (s,⟨#[]⟩,false)
theorem indexNl_ok (M:Mem) (L:HL) (s:ByteArray):TrQ Tryz.prog 136 [.string s,.string ⟨#[10]⟩] M L (.int .i64 (if nlN s.data.toList<s.size then ((nlN s.data.toList:Nat):Int)else-1)):=
 trQ_calls (fun w=>Tryz.call136 _ w) fun w _=>by
  refine (Tryz.stringslite_Index_one s 10 w).mono fun e w'=> ?_
  rintro ⟨rfl,rfl⟩
  rw [index_nl,ba_len]
  exact ⟨rfl,Below.refl _ _⟩
theorem cut1_ok (M:Mem) (L:HL) (s:ByteArray) (hs:s.size<1000000):TrQ Tryz.prog 109 [.string s,.string ⟨#[10]⟩] M L (.tuple ⟨[.string (cutR s).1,.string (cutR s).2.1,.bool (cutR s).2.2]⟩):=by
 have hi:=indexNl_ok M L s
 have h1:(⟨#[10]⟩:ByteArray).size=1:=rfl
 refine Tr.intro 23 Tryz.func109 rfl rfl Tryz.call109 rfl ?_;intro C hC hro
 by_cases h:nlN s.data.toList<s.size
 ·rw [if_pos h] at hi
  have hcr:cutR s=(s.extract 0 (nlN s.data.toList),s.extract (nlN s.data.toList+1) s.size,true):=by rw [cutR,if_pos h]
  generalize nlN s.data.toList=k at hi hcr h
  repeat (first | refine zc ?_ | refine vq ?_)
  refine qc hi ?_
  repeat (first | refine yy ?_ | refine yx fun _=> ?_)
  refine run_cond (t:=decide ((k:Int)≥0)) rfl (fun _=> ?_) (fun h=>by have:=of_decide_eq_false h;omega)
  repeat (first | refine yy ?_ | refine dd ?_ | refine yd ?_ | refine yx fun _=> ?_)
  refine pr_as 20 (iv (k+1)) rfl (congrArg (Value.int .i64) (wrap64_succ (by omega))) ?_
  repeat (first | refine yy ?_ | refine dd ?_ | refine yd ?_ | refine yx fun _=> ?_)
  exact run_ret hC (rs:= [.tmp 4,.tmp 5,.tmp 6]) rfl (resT rfl (resT rfl (resT rfl resN))) (fun _ h=>h) ⟨by rw [hcr];rfl,rfl,rfl⟩
 ·rw [if_neg h] at hi
  have hcr:cutR s=(s,⟨#[]⟩,false):=by rw [cutR,if_neg h]
  repeat (first | refine zc ?_ | refine vq ?_)
  refine qc hi ?_
  repeat (first | refine yy ?_ | refine yx fun _=> ?_)
  refine run_cond rfl (fun h=>by cases h) (fun _=> ?_)
  repeat (first | refine yy ?_ | refine yx fun _=> ?_)
  exact run_ret hC (rs:= [.tmp 4,.tmp 5,.tmp 6]) rfl (resT rfl (resT rfl (resT rfl resN))) (fun _ h=>h) ⟨by rw [hcr];rfl,rfl,rfl⟩
theorem cutNl_ok (M:Mem) (L:HL) (s:ByteArray) (hs:s.size<1000000):TrQ Tryz.prog 61 [.string s,.string ⟨#[10]⟩] M L (.tuple ⟨[.string (cutR s).1,.string (cutR s).2.1,.bool (cutR s).2.2]⟩):=by
 refine Tr.intro 13 Tryz.func61 rfl rfl Tryz.call61 rfl ?_;intro C hC hro
 repeat (first | refine zc ?_ | refine vq ?_)
 refine qc (cut1_ok _ _ s hs) ?_
 repeat (first | refine yy ?_ | refine yx fun _=> ?_)
 exact run_ret hC (rs:= [.tmp 4,.tmp 5,.tmp 6]) rfl (resT rfl (resT rfl (resT rfl resN))) (fun _ h=>h) ⟨rfl,rfl,rfl⟩
def lnO (names:List ByteArray):Nat→Nat→ByteArray→Nat ⊕ List Aa
 | 0,_,_=> .inr []
 | k+1,n,s=>if s=⟨#[]⟩then .inr [] else
   if (cutR s).2.2=true∧(parseA names (cutR s).1).2=0 then match lnO names k (n+1) (cutR s).2.1 with
     | .inl m=> .inl m
     | .inr l=> .inr ((parseA names (cutR s).1).1::l)
   else .inl n
def readA (names:List ByteArray) (s:ByteArray):List Aa×Nat×Int:=
 if rollB names=true then if s.size≤262144 then match lnO names s.size 1 s with
  | .inl m=>([],m,380)
  | .inr l=>(l,0,0)
   else ([],0,5)
 else ([],0,2)
def lnK (xs:List Aa) (o:Nat ⊕ List Aa):Nat ⊕ List Aa:=match o with
 | .inl m=> .inl m
 | .inr l=> .inr (xs++l)
theorem lnK_cons (xs:List Aa) (a:Aa) (o:Nat ⊕ List Aa):lnK xs (match o with | .inl m=> .inl m | .inr l=> .inr (a::l))=lnK (xs++ [a]) o:=by
 cases o with
 | inl m=>rfl
 | inr l=>simp [lnK]
theorem cutR_sz (s:ByteArray) (h:s≠⟨#[]⟩):(cutR s).1.size≤s.size∧(cutR s).2.1.size+1≤s.size:=by
 have hp:0<s.size:=Nat.pos_of_ne_zero fun h0=>h (ba_nil h0)
 unfold cutR
 split
 ·exact ⟨by show (s.extract _ _).size≤_;rw [ByteArray.size_extract];omega,by show (s.extract _ _).size+1≤_;rw [ByteArray.size_extract];omega⟩
 ·exact ⟨Nat.le_refl _,by show 0+1≤_;omega⟩
theorem axC_one (a:Ax): ∀u∈axC a,u.oneCell'=true:=by
 intro u hu
 simp only [axC,List.mem_cons,List.not_mem_nil,or_false] at hu
 rcases hu with rfl | rfl | rfl | rfl | rfl | rfl | rfl | rfl | rfl | rfl <;> rfl
def raK (r:List Aa×Nat×Int) (M:Mem) (L:HL) (v:Value) (M':Mem) (L':HL):Prop:=
 M.le M'∧L'=L∧ ∃A:SAx,SaOk M' A∧A.xs.map Ax.aa=r.1∧A.len≤A.cap∧v= .tuple ⟨[A.v,iv r.2.1,.int .i64 r.2.2]⟩
theorem noA_ok (M:Mem):SaOk M ⟨none,0,0,[]⟩:=⟨⟨rfl,(fun _ h=>by cases h),.inl rfl⟩,by decide,fun _ h=>by cases h⟩
theorem OS.capL {e size n c:Nat} {a:Option Addr} {xs:List Value} {N:HL} (h:OS e size (.slice a n c) n xs N):n≤c:=by
 rcases h with ⟨hv,rfl,_,_⟩ | ⟨b,cap,cs,hv,rfl,hle,_,_⟩
 ·exact Nat.zero_le _
 ·cases hv;exact hle
theorem tread_ok (M:Mem) (L:HL) (hG:G38 M) (S:SStr) (hS:StOk M S) (hcap:S.len≤S.cap) (hnz: ∀x∈S.xs,x.size<1000000) (s:ByteArray) (hs:s.size<1000000):Tr Tryz.prog 25 [S.v,.string s] M L (raK (readA S.xs s) M L):=by
 have hroll:=fun L=>roll_ok M L S hS hcap hnz
 refine Tr.intro 49 Tryz.func25 rfl rfl Tryz.call25 rfl ?_;intro C hC hro
 by_cases hr:rollB S.xs=true
 rotate_left
 ·rw [if_neg hr] at hroll
  repeat (first | refine zc ?_ | refine vq ?_)
  refine qc (hroll _) ?_
  repeat (first | refine yy ?_ | refine yx fun _=> ?_)
  refine run_cond rfl (fun _=> ?_) (fun h=>by cases h)
  repeat (first | refine yy ?_ | refine yx fun _=> ?_)
  exact run_ret hC (rs:= [.tmp 4,.tmp 5,.tmp 6]) rfl (resT rfl (resT rfl (resT rfl resN))) (fun _ h=>h) ⟨Mem.le_refl _,rfl,⟨none,0,0,[]⟩,noA_ok _,by rw [readA,if_neg hr];rfl,Nat.le_refl _,by rw [readA,if_neg hr];rfl⟩
 rw [if_pos hr] at hroll
 repeat (first | refine zc ?_ | refine vq ?_)
 refine qc (hroll _) ?_
 repeat (first | refine yy ?_ | refine yx fun _=> ?_)
 refine run_cond rfl (fun h=>by cases h) (fun _=> ?_)
 repeat (first | refine yy ?_ | refine yx fun _=> ?_)
 refine run_cond (t:=decide ((s.size:Int)>262144)) rfl (fun h=> ?_) (fun h=> ?_)
 ·have hz: ¬s.size≤262144:=by have:=of_decide_eq_true h;omega
  repeat (first | refine yy ?_ | refine yx fun _=> ?_)
  exact run_ret hC (rs:= [.tmp 4,.tmp 5,.tmp 6]) rfl (resT rfl (resT rfl (resT rfl resN))) (fun _ h=>h) ⟨Mem.le_refl _,rfl,⟨none,0,0,[]⟩,noA_ok _,by rw [readA,if_pos hr,if_neg hz];rfl,Nat.le_refl _,by rw [readA,if_pos hr,if_neg hz];rfl⟩
 have hz:s.size≤262144:=by have:=of_decide_eq_false h;omega
 obtain ⟨R,hR⟩: ∃R,lnO S.xs s.size 1 s=R:=⟨_,rfl⟩
 have hi1: ∀m,R= .inl m→readA S.xs s=([],m,380):=fun m h=>by rw [readA,if_pos hr,if_pos hz,hR.trans h]
 have hi2: ∀l,R= .inr l→readA S.xs s=(l,0,0):=fun l h=>by rw [readA,if_pos hr,if_pos hz,hR.trans h]
 repeat (first | refine yy ?_ | refine yx fun _=> ?_)
 refine run_loopN (fun j σ1 M1 L1=>j≤s.size∧M.le M1∧ ∃a c N ys s1,ys.length=j∧L1=N++L∧OS 28 10 (.slice a j c) j (ys.map axC).flatten N∧(∀x∈ys,AxOk M1 x)∧s1.size+j≤s.size∧R=lnK (ys.map Ax.aa) (lnO S.xs (s.size-j) (j+1) s1)∧σ1= [(5,iv (j+1)),(4,.slice a j c),(0,S.v),(1,.string s1)]) s.size [(5,iv 1),(4,.slice none 0 0),(0,S.v),(1,.string s)] ?_ ⟨Nat.zero_le _,Mem.le_refl _,none,0,[],[],s,rfl,rfl,.inl ⟨rfl,rfl,rfl,rfl⟩,(fun _ h=>by cases h),Nat.le_refl _,by rw [Nat.sub_zero,←hR];cases lnO S.xs s.size 1 s <;> rfl,rfl⟩ (fun j _ _ _ h=>h.1) ?_
 ·exact ⟨rfl,rfl,rfl,rfl,trivial⟩
 rintro j _ M1 _ ⟨hj,hM1,a,c,N,ys,s1,hys,rfl,hO,hok,hs1,hP,rfl⟩ hnext
 have hend:s1=⟨#[]⟩→ ∀k n,lnO S.xs k n s1= .inr []:=fun h k n=>by
  cases k with
  | zero=>rfl
  | succ k=>rw [lnO,if_pos h]
 repeat (first | refine yy ?_ | refine yx fun _=> ?_)
 refine run_cond (t:= !(s1.toList==(⟨#[]⟩:ByteArray).toList)) rfl (fun h1=> ?_) (fun h1=> ?_)
 rotate_left
 ·rw [bytes_beq] at h1
  rw [hend (by simpa using h1),lnK,List.append_nil] at hP
  have hrd:=hi2 _ hP
  have hcl:=OS.capL hO
  repeat (first | refine yy ?_ | refine yx fun _=> ?_)
  refine run_frzL N fun M5 hM5 hb=> ?_
  exact run_ret hC (rs:= [.tmp 4,.tmp 5,.tmp 6]) rfl (resT rfl (resT rfl (resT rfl resN))) (fun _ h=>h) ⟨Mem.le_trans hM1 hM5,rfl,⟨a,j,c,ys⟩,⟨OS.toM hO (fun l hl=>by obtain ⟨x,_,rfl⟩:=List.mem_map.1 hl;rfl) (by simpa using hys) hb,by show j<_;omega,fun x hx=>(hok x hx).le hM5⟩,by rw [hrd],hcl,by rw [hrd];rfl⟩
 rw [bytes_beq] at h1
 have hne:s1≠⟨#[]⟩:=by simpa using h1
 obtain ⟨hc1,hc2⟩:=cutR_sz s1 hne
 rw [show s.size-j=(s.size-(j+1))+1 by omega,lnO,if_neg hne] at hP
 generalize hcut:cutR s1=ct at hc1 hc2 hP
 have hcn:=fun L=>cutNl_ok M1 L s1 (by omega)
 rw [hcut] at hcn
 generalize hpa:parseA S.xs ct.1=pa at hP
 have hpar:=fun L=>tparse_ok M1 L (hG.le hM1) S (hS.le hM1) hcap hnz ct.1 (by omega)
 rw [hpa] at hpar
 repeat (first | refine zc ?_ | refine vq ?_)
 refine qc (hcn _) ?_
 repeat (first | refine zc ?_ | refine vq ?_)
 refine oc (hpar _) ?_
 rintro _ M2 _ ⟨hM2,rfl,ax,hax,haa,rfl⟩
 have hM12:=Mem.le_trans hM1 hM2
 repeat (first | refine yy ?_ | refine yx fun _=> ?_)
 rename_i ba
 refine run_cond (t:= !ct.2.2||(pa.2 !=0)) rfl (fun h2=> ?_) (fun h2=> ?_)
 ·have hno: ¬(ct.2.2=true∧pa.2=0):=fun h=>by rw [h.1,h.2] at h2;cases h2
  rw [if_neg hno] at hP
  have hrd:=hi1 _ hP
  repeat (first | refine yy ?_ | refine yx fun _=> ?_)
  exact run_ret hC (rs:= [.tmp 4,.tmp 5,.tmp 6]) rfl (resT rfl (resT rfl (resT rfl resN))) (fun _ h=>h.drop.dropAll) ⟨hM12,rfl,⟨none,0,0,[]⟩,noA_ok _,by rw [hrd];rfl,Nat.le_refl _,by rw [hrd];rfl⟩
 have hyes:ct.2.2=true∧pa.2=0:=by
  simp only [Bool.or_eq_false_iff,Bool.not_eq_false',bne_eq_false_iff_eq] at h2
  exact h2
 rw [if_pos hyes] at hP
 repeat (first | refine yy ?_ | refine yx fun _=> ?_)
 (refine runL_op (st_app1x (n:=j) (news:=axC ax) tok rfl rfl rfl rfl rfl rfl rfl rfl hO rfl (axC_one _) (by omega) (by omega)) rfl rfl rfl ?_;rintro _ _ _ ⟨rfl,N',a',c',rfl,rfl,hO'⟩)
 repeat (first | refine yy ?_ | refine yx fun _=> ?_)
 refine run_mem (fun _ h=>h.drop) (run_sub' (hnext _ _ _ ⟨by omega,hM12,a',c',N',ys++ [ax],ct.2.1,by rw [List.length_append,hys];rfl,rfl,by rw [List.map_append,List.flatten_append];simpa using hO', ?_,by omega,by rw [hP,lnK_cons,List.map_append,List.map_singleton,haa],rfl⟩) ⟨lk_succ rfl (by omega),rfl,rfl,rfl,trivial⟩)
 intro q hq
 rcases List.mem_append.1 hq with hq | hq
 ·exact (hok q hq).le hM2
 ·obtain rfl:=List.mem_singleton.1 hq
  exact hax
def wOk:ByteArray:=⟨#[111,107]⟩
def wErr:ByteArray:=⟨#[101,114,114,111,114,32]⟩
def wCom:ByteArray:=⟨#[44,32]⟩
def wPosts:ByteArray:=⟨#[32,112,111,115,116,115]⟩
def ntC (e:Int) (t:Tx) (n:Int):List Value:= [.int .i64 e,.int .i64 t.coord,.int .i64 t.epoch,.int .i64 t.seq,.int .i64 n]
def noTx (t:Tx):Bool:=(t.coord==0)&&((t.epoch==0)&&((t.seq==0)&&true))
def badNt (k:Nat) (e:Int) (t:Tx) (n:Int):Bool:=(((decide (e<0)||decide (e>2147483647))||decide (n<0))||decide (n>2147483647))||(!noTx t&&(!mayTx t||decide (t.coord≥(k:Int))))
def noteS (names:List ByteArray) (e:Int) (t:Tx) (n:Int):ByteArray:=
 ((if e=0 then wOk else wErr++dgB e)++(if noTx t=true then ⟨#[]⟩else sp1++((txnV names t).getD ⟨#[]⟩)))++(if n=0 then ⟨#[]⟩else (wCom++dgB n)++wPosts)
def noteA (names:List ByteArray) (e:Int) (t:Tx) (n:Int):ByteArray×Int:=if rollB names=true then if badNt names.length e t n=true then (⟨#[]⟩,2)else (noteS names e t n,0)else (⟨#[]⟩,2)
theorem tnote_ok (M:Mem) (L:HL) (hG:G38 M) (S:SStr) (hS:StOk M S) (hcap:S.len≤S.cap) (hnz: ∀x∈S.xs,x.size<1000000) (e:Int) (t:Tx) (n:Int):TrQ Tryz.prog 14 [S.v,.agg ⟨ntC e t n⟩] M L (.tuple ⟨[.string (noteA S.xs e t n).1,.int .i64 (noteA S.xs e t n).2]⟩):=by
 obtain ⟨ρ,hρ⟩: ∃ρ:Int,(if rollB S.xs=true then (0:Int)else 2)=ρ:=⟨_,rfl⟩
 have hroll:=fun L=>roll_ok M L S hS hcap hnz
 rw [hρ] at hroll
 have hlen:=hS.len
 refine Tr.intro 93 Tryz.func14 rfl rfl Tryz.call14 rfl ?_;intro C hC hro
 repeat (first | refine zc ?_ | refine yx fun _=> ?_ | refine vq ?_)
 rename_i b3
 refine qc (hroll _) ?_
 repeat (first | refine yy ?_ | refine yx fun _=> ?_ | refine gc (mayTx_ok _ _ t) ?_)
 have hbad:(((((((ρ !=0)||decide (e<0))||decide (e>2147483647))||decide (n<0))||decide (n>2147483647))||(!noTx t&&(!mayTx t||decide (t.coord≥(S.len:Int))))))=true↔ ¬(rollB S.xs=true∧badNt S.xs.length e t n=false):=by
  have e1:(((((((ρ !=0)||decide (e<0))||decide (e>2147483647))||decide (n<0))||decide (n>2147483647))||(!noTx t&&(!mayTx t||decide (t.coord≥(S.len:Int))))))=((ρ !=0)||badNt S.xs.length e t n):=by
   rw [hlen,badNt];simp only [Bool.or_assoc]
  rw [e1,←hρ]
  generalize badNt S.xs.length e t n=b
  by_cases hr:rollB S.xs=true
  ·rw [if_pos hr];cases b <;> simp [hr]
  ·rw [if_neg hr];simp [hr]
 refine run_cond (t:=(((((((ρ !=0)||decide (e<0))||decide (e>2147483647))||decide (n<0))||decide (n>2147483647))||(!noTx t&&(!mayTx t||decide (t.coord≥(S.len:Int))))))) rfl (fun h=> ?_) (fun h=> ?_)
 ·have h0:=hbad.1 h
  have hna:noteA S.xs e t n=(⟨#[]⟩,2):=by
   unfold noteA
   by_cases hr:rollB S.xs=true
   ·rw [if_pos hr,if_pos (by
      cases hb:badNt S.xs.length e t n with
      | true=>rfl
      | false=>exact absurd ⟨hr,hb⟩ h0)]
   ·rw [if_neg hr]
  repeat (first | refine yy ?_ | refine yx fun _=> ?_)
  exact run_ret hC (rs:= [.tmp 4,.tmp 5]) rfl (resT rfl (resT rfl resN)) (fun _ h=>h.drop) ⟨by rw [hna];rfl,rfl,rfl⟩
 have hgood:rollB S.xs=true∧badNt S.xs.length e t n=false:=Classical.byContradiction fun h1=>by
  rw [hbad.2 h1] at h;cases h
 clear hbad h
 obtain ⟨hr,hb⟩:=hgood
 have hna:noteA S.xs e t n=(noteS S.xs e t n,0):=by rw [noteA,if_pos hr,if_neg (by rw [hb];decide)]
 rw [badNt] at hb
 simp only [Bool.or_eq_false_iff,decide_eq_false_iff_not] at hb
 obtain ⟨⟨⟨⟨he0,he1⟩,hn0⟩,hn1⟩,htx⟩:=hb
 have hdn:=dgB_sz (n:=n) (by omega)
 have hde:=dgB_sz (n:=e) (by omega)
 generalize hL3:(b3,Obj.cells ⟨ntC e t n⟩ 31 (0,0))::L=L3
 have hm3:(b3,Obj.cells ⟨ntC e t n⟩ 31 (0,0))∈L3:=by rw [←hL3];exact List.mem_cons_self
 refine run_mem (L':=L3) (fun _ h=>by rw [←hL3];exact h) ?_
 have hout: ∀(M1:Mem) w,Hp M1 L3 w→Hp M1 L w:=fun M1 w h=>by rw [←hL3] at h;exact h.drop
 repeat (first | refine yy ?_ | refine yx fun _=> ?_)
 rename_i b7 b8
 have hB0:VoAt b7 S.v [] L3 ((b7,voO S.v (.pointer none) (.slice none 0 0))::L3):=⟨_,_,[],.inl rfl,List.Perm.refl _,bdS_nil⟩
 refine oc (say1_ok _ _ _ b7 _ _ _ wOk hB0 (by show 0+2<_;omega)) ?_
 rintro _ M1 L1 ⟨hM1,hB1⟩
 have hm1:=hB1.memR hm3
 repeat (first | refine yy ?_ | refine yx fun _=> ?_)
 refine run_condI (fun σ' M' L'=> ∃bv R' u,M.le M'∧VoAt bv S.v u.data.toList R' L'∧(∀(M1:Mem) w,Hp M1 R' w→Hp M1 L3 w)∧(b3,Obj.cells ⟨ntC e t n⟩ 31 (0,0))∈R'∧u=(if e=0 then wOk else wErr++dgB e)∧σ'= [(7,pt bv),(6,.bool (noTx t)),(3,pt b3)]) (t:=e !=0) rfl (fun h hk=> ?_) (fun h hk=> ?_) ?_
 ·have he:e≠0:=by simpa using h
  obtain ⟨p',v',N',_,hL',_⟩:=id hB1
  have hi:=fun L=>itoa_ok M1 L e.toNat (by omega) (hG.le hM1)
  rw [Int.toNat_of_nonneg (by omega)] at hi
  repeat (first | refine yy ?_ | refine yx fun _=> ?_)
  rename_i b9
  have hB9:VoAt b9 S.v [] L1 ((b9,voO S.v (.pointer none) (.slice none 0 0))::L1):=⟨_,_,[],.inl rfl,List.Perm.refl _,bdS_nil⟩
  have h6e:wErr.size=6:=rfl
  refine qc (hi _) ?_
  refine yx fun b10=> ?_
  refine oc (say_ok _ _ _ b9 _ _ _ [wErr,dgB e] _ 2 rfl rfl (by decide) hB9 (by simp only [cat,app_size];rw [h6e];show 0+(_+(_+0))<_;omega)) ?_
  rintro _ M4 L5 ⟨hM4,hB4⟩
  refine yy ?_
  exact run_sub' (hk _ _ _ ⟨b9,L1,wErr++dgB e,Mem.le_trans hM1 hM4,by simpa [cat] using hB4,fun M1 w h=>((h.perm hL').dropAll).drop,hm1,by rw [if_neg he],rfl⟩) ⟨rfl,rfl,rfl,trivial⟩
 ·have he:e=0:=by simpa using h
  refine yy ?_
  exact run_sub' (hk _ _ _ ⟨b7,L3,wOk,hM1,hB1,fun _ _ h=>h,hm3,by rw [if_pos he],rfl⟩) ⟨rfl,rfl,rfl,trivial⟩
 rintro _ M2 L2 ⟨bv,R',u,hM2,hB2,hR',hm2,hu,rfl⟩
 clear hB1 hB0 hm1
 have huz:u.size≤25:=by
  rw [hu];split
  ·decide
  ·have:wErr.size=6:=rfl
   rw [app_size];omega
 have hmL:=hB2.memR hm2
 repeat (first | refine yy ?_ | refine yx fun _=> ?_)
 refine run_condI (fun σ' M' L'=> ∃w,M.le M'∧VoAt bv S.v (u++w).data.toList R' L'∧w.size≤1000200∧w=(if noTx t=true then ⟨#[]⟩else sp1++((txnV S.xs t).getD ⟨#[]⟩))∧σ'= [(7,pt bv),(3,pt b3)]) (t:= !noTx t) rfl (fun h hk=> ?_) (fun h hk=> ?_) ?_
 ·have hno:noTx t=false:=by simpa using h
  have hmt:mayTx t=true∧t.coord<(S.xs.length:Int):=by
   rw [hno] at htx
   simp only [Bool.not_false,Bool.true_and,Bool.or_eq_false_iff,Bool.not_eq_false',decide_eq_false_iff_not] at htx
   exact ⟨htx.1,by omega⟩
  have htf:=txIn hmt.1
  refine yy ?_
  refine yy ?_
  refine yy ?_
  refine yx fun b9=> ?_
  refine oc (say1_ok _ _ _ bv _ _ _ sp1 hB2 (by rw [ba_len];show _+1<_;omega)) ?_
  rintro _ M3 L4 ⟨hM3,hB3⟩
  have hM23:=Mem.le_trans hM2 hM3
  have hm3:=hB3.memR hm2
  repeat (first | refine yi ?_)
  refine vR (vtxn_ok _ _ _ (hG.le hM23) bv _ S (hS.le hM23) t htf.1 htf.2.1 htf.2.2 hB3 (fun x hx=>by
   have:=hnz x hx
   rw [List.length_append,ba_len,ba_len];show _+1+_+_<_;omega)) (fun w M4 L5 hw hM4 hB4=> ?_) (fun hw=> ?_)
  rotate_left
  ·exfalso
   rw [txnV,Option.map_eq_none_iff,orgV,List.getElem?_eq_none_iff] at hw
   omega
  have hwz:=txnV_sz hnz htf.2.1.2 htf.2.2.2 hw
  refine yy ?_
  exact run_sub' (hk _ _ _ ⟨sp1++w,Mem.le_trans hM23 hM4,by simpa using hB4,by rw [app_size];show 1+_≤_;omega,by rw [hno,if_neg (by decide),hw];rfl,rfl⟩) ⟨rfl,rfl,trivial⟩
 ·have hno:noTx t=true:=by simpa using h
  refine yy ?_
  exact run_sub' (hk _ _ _ ⟨⟨#[]⟩,hM2,by rw [app_nil];exact hB2,Nat.zero_le _,by rw [hno,if_pos rfl],rfl⟩) ⟨rfl,rfl,trivial⟩
 clear hB2 hmL
 rintro _ M3 L4 ⟨w,hM3,hB3,hwz,hw,rfl⟩
 have hm3:=hB3.memR hm2
 have h2c:wCom.size=2:=rfl
 have h6p:wPosts.size=6:=rfl
 repeat (first | refine yy ?_ | refine yx fun _=> ?_)
 refine run_condI (fun σ' M' L'=>M.le M'∧VoAt bv S.v (noteS S.xs e t n).data.toList R' L'∧(noteS S.xs e t n).size≤2000000∧1≤(noteS S.xs e t n).size∧σ'= [(7,pt bv)]) (t:=n !=0) rfl (fun h hk=> ?_) (fun h hk=> ?_) ?_
 ·have hn:n≠0:=by simpa using h
  have hns:noteS S.xs e t n=(u++w)++((wCom++dgB n)++wPosts):=by rw [noteS,←hu,←hw,if_neg hn]
  have hi:=itoa_ok M3 L4 n.toNat (by omega) (hG.le hM3)
  rw [Int.toNat_of_nonneg (by omega)] at hi
  repeat (first | refine zc ?_ | refine vq ?_)
  refine qc hi ?_
  refine yx fun b9=> ?_
  refine oc (say_ok _ _ _ bv _ _ _ [wCom,dgB n,wPosts] _ 3 rfl rfl (by decide) hB3 (by simp only [cat,app_size,ba_len];rw [h2c,h6p];show _+(_+(_+(_+0)))<_;omega)) ?_
  rintro _ M4 L5 ⟨hM4,hB4⟩
  refine yy ?_
  exact run_sub' (hk _ _ _ ⟨Mem.le_trans hM3 hM4,by rw [hns];simpa [cat] using hB4,by rw [hns];simp only [app_size];omega,by rw [hns];simp only [app_size];omega,rfl⟩) ⟨rfl,trivial⟩
 ·have hn:n=0:=by simpa using h
  have hns:noteS S.xs e t n=u++w:=by rw [noteS,←hu,←hw,if_pos hn,app_nil]
  have hup:1≤u.size:=by
   rw [hu];split
   ·decide
   ·have:wErr.size=6:=rfl
    rw [app_size];omega
  refine yy ?_
  exact run_sub' (hk _ _ _ ⟨hM3,by rw [hns];exact hB3,by rw [hns,app_size];omega,by rw [hns,app_size];omega,rfl⟩) ⟨rfl,trivial⟩
 rintro _ M4 L5 ⟨hM4,hB4,hz2,hz1,rfl⟩
 repeat (first | refine yy ?_ | refine yx fun _=> ?_)
 refine oc (vStr_ok _ _ _ bv _ _ hB4 hz1 (by omega)) ?_
 rintro _ _ L6 ⟨rfl,rfl,N,hN⟩
 repeat (first | refine yy ?_ | refine yx fun _=> ?_)
 exact run_ret hC (rs:= [.tmp 4,.tmp 5]) rfl (resT rfl (resT rfl resN)) (fun w h=>hout _ w (hR' _ w ((h.of_le hM4).perm hN).dropAll)) ⟨by rw [hna];rfl,rfl,rfl⟩
set_option maxRecDepth 100000
def nm3:List ByteArray:= [⟨#[97,99,109,101]⟩,⟨#[98,111,108,116]⟩,⟨#[99,97,114,112]⟩]
def kot2:List ByteArray:= [⟨#[107,111,116]⟩,⟨#[208,186,208,190,209,130]⟩]
def exA1:Aa:=⟨1,0,2,0,[⟨1,⟨#[100,2,104,105]⟩⟩],tz,false,[]⟩
def exA2:Aa:=⟨2,1,0,0,[],⟨0,1,2⟩,true,[]⟩
def exS1:ByteArray:=⟨#[97,99,109,101,32,98,101,103,105,110,115,32,102,111,114,32,99,97,114,112,58,32,98,111,108,116,32,34,104,105,34]⟩
def exS2:ByteArray:=⟨#[98,111,108,116,32,115,97,121,115,32,121,101,115,32,116,111,32,97,99,109,101,47,49,47,50]⟩
def exS3:ByteArray:=⟨#[97,99,109,101,32,116,105,99,107,115,10,99,97,114,112,32,103,101,116,115,32,115,101,101,110,32,48,32,43,32,104,97,115,104,32,48,10,112,111,115,116,32,48,51,48,48,32,99,111,109,101,115,10]⟩
def exS4:ByteArray:=⟨#[111,107,44,32,50,32,112,111,115,116,115]⟩
theorem al_roll:rollB nm3=true:=by decide+kernel
theorem al_kot:rollB kot2=false:=by decide+kernel
theorem al_line:lineA nm3 exA1=(exS1,0):=by decide+kernel
theorem al_parse:parseA nm3 exS2=(exA2,0):=by kernel_rfl
theorem al_read:readA nm3 exS3=([],3,380):=by kernel_rfl
theorem al_note:noteA nm3 0 tz 2=(exS4,0):=by decide+kernel
open Go.Chi
set_option maxRecDepth 10000 in
theorem refSameInts_ok (M:Mem) (L:HL) (p q:SIn) (hp:InOk M p) (hq:InOk M q):TrQ Tryz.prog 99 [p.v,q.v] M L (.bool (decide (p.xs=q.xs))):=by
 have l1:=hp.len
 have l2:=hq.len
 have n1:=hp.2
 have n2:=hq.2
 obtain ⟨pa,pl,pc,px⟩:=p
 obtain ⟨qa,ql,qc,qx⟩:=q
 simp only [SIn.v] at*
 refine Tr.intro 26 Tryz.func99 rfl rfl Tryz.call99 rfl ?_;intro C hC hro
 repeat (first | refine zz ?_ | refine zx fun _=> ?_)
 refine run_cond rfl (fun h=> ?_) (fun h=> ?_)
 ·have hne:px≠qx:=by rintro rfl;simp at h;omega
  rw [decide_eq_false hne] at hC
  repeat (first | refine zz ?_ | refine zx fun _=> ?_)
  exact run_ret hC (rs:= [.tmp 4]) rfl (resT rfl resN) (fun _ h=>h) ⟨rfl,rfl,rfl⟩
 have he:pl=ql:=by simp at h;omega
 subst he
 repeat (first | refine zz ?_ | refine zx fun _=> ?_)
 refine run_loopN (fun j σ1 M1 L1=>j≤pl∧M=M1∧L=L1∧px.take j=qx.take j∧σ1= [(5,.int .i64 (j:Int)),(0,.slice pa pl pc),(1,.slice qa pl qc)]) pl [(5,.int .i64 ((0:Nat):Int)),(0,.slice pa pl pc),(1,.slice qa pl qc)] ?_ ⟨Nat.zero_le _,rfl,rfl,by simp,rfl⟩ (fun j _ _ _ h=>h.1) ?_
 ·exact ⟨rfl,rfl,rfl,trivial⟩
 rintro j _ _ _ ⟨hj,rfl,rfl,heq,rfl⟩ hnext
 repeat (first | refine zz ?_ | refine zx fun _=> ?_)
 refine run_cond rfl (fun h=> ?_) (fun h=> ?_)
 ·have hlt:j<pl:=by simpa using h
  obtain ⟨b,off,m,rfl,hm,hc⟩:=SIn.at_ hp.1 hlt
  obtain ⟨b',off',m',rfl,hm',hc'⟩:=SIn.at_ hq.1 hlt
  repeat (first | refine zz ?_ | refine zx fun _=> ?_ | refine dd ?_ | refine dz ?_ | refine dx fun _=> ?_ | refine prn_q rfl (qt_indexN tok rfl rfl rfl rfl (fun _=>by omega)) (by decide+kernel) rfl rfl rfl ?_ | refine prn_g rfl rfl rfl (qt_indexN tok rfl rfl rfl rfl (fun _=>by omega)) (by decide+kernel) rfl rfl rfl rfl rfl ?_ | refine prn_q rfl (qt_ldM tok rfl hc rfl) (by decide+kernel) rfl rfl rfl ?_ | refine prn_g rfl rfl rfl (qt_ldM tok rfl hc rfl) (by decide+kernel) rfl rfl rfl rfl rfl ?_ | refine prn_q rfl (qt_ldM0 tok rfl hc rfl) (by decide+kernel) rfl rfl rfl ?_ | refine prn_g rfl rfl rfl (qt_ldM0 tok rfl hc rfl) (by decide+kernel) rfl rfl rfl rfl rfl ?_ | refine prn_q rfl (qt_ldM tok rfl hc' rfl) (by decide+kernel) rfl rfl rfl ?_ | refine prn_g rfl rfl rfl (qt_ldM tok rfl hc' rfl) (by decide+kernel) rfl rfl rfl rfl rfl ?_ | refine prn_q rfl (qt_ldM0 tok rfl hc' rfl) (by decide+kernel) rfl rfl rfl ?_ | refine prn_g rfl rfl rfl (qt_ldM0 tok rfl hc' rfl) (by decide+kernel) rfl rfl rfl rfl rfl ?_)
  refine run_cond rfl (fun h=> ?_) (fun h=> ?_)
  ·have hne:px≠qx:=by rintro rfl;rw [hm] at hm';cases hm';simp at h
   rw [decide_eq_false hne] at hC
   repeat (first | refine zz ?_ | refine zx fun _=> ?_)
   exact run_ret hC (rs:= [.tmp 4]) rfl (resT rfl resN) (fun _ h=>h) ⟨rfl,rfl,rfl⟩
  ·have hmm:m=m':=by simpa using h
   subst hmm
   repeat (first | refine zz ?_ | refine zx fun _=> ?_)
   refine run_sub' (hnext _ _ _ ⟨hlt,rfl,rfl, ?_,rfl⟩) ⟨lk_succ rfl (by omega),rfl,rfl,trivial⟩
   rw [take_snoc hm,take_snoc hm',heq]
 ·have hge:j=pl:=by simp at h;omega
  subst hge
  rw [List.take_of_length_le (by omega),List.take_of_length_le (by omega)] at heq
  rw [decide_eq_true heq] at hC
  repeat (first | refine zz ?_ | refine zx fun _=> ?_)
  exact run_ret hC (rs:= [.tmp 4]) rfl (resT rfl resN) (fun _ h=>h) ⟨rfl,rfl,rfl⟩
def sameSp (x y:Sp):Bool:=((((((x.do_==y.do_)&&(x.a==y.a))&&(x.b==y.b))&&(x.c==y.c))&&(x.n==y.n))&&(x.text.toList==y.text.toList))&&decide (x.list=y.list)
set_option maxRecDepth 10000 in
theorem refSameStep_ok (M:Mem) (L:HL) (x y:Sr) (hx:SrOk M x) (hy:SrOk M y):TrQ Tryz.prog 55 [.agg ⟨srC x⟩,.agg ⟨srC y⟩] M L (.bool (sameSp x.sp y.sp)):=by
 refine Tr.intro 52 Tryz.func55 rfl rfl Tryz.call55 rfl ?_;intro C hC hro
 repeat (first | refine zz ?_ | refine zx fun _=> ?_ | refine runL_g rfl rfl (qt_callF rfl (fun _=>refSameInts_ok _ _ x.list y.list hx.list hy.list)) rfl rfl rfl rfl rfl ?_)
 exact run_ret hC (rs:= [.tmp 4]) rfl (resT rfl resN) (fun _ h=>h.drop.drop) ⟨rfl,rfl,rfl⟩
theorem sameSp_iff (x y:Sp):sameSp x y=true↔x=y:=by
 obtain ⟨d,a,b,c,n,t,l⟩:=x
 obtain ⟨d',a',b',c',n',t',l'⟩:=y
 unfold sameSp
 rw [bytes_beq]
 simp [and_assoc]
set_option maxRecDepth 10000 in
theorem refSameAct_ok (M:Mem) (L:HL) (x y:Ax) (hx:AxOk M x) (hy:AxOk M y) (r:Bool) (hr:r=true↔x.aa=y.aa):TrQ Tryz.prog 19 [.agg ⟨axC x⟩,.agg ⟨axC y⟩] M L (.bool r):=by
 have l1:=hx.gives.len
 have l2:=hy.gives.len
 have l3:=hx.steps.len
 have l4:=hy.steps.len
 have n1:=hx.gives.2
 have n3:=hx.steps.lt
 refine Tr.intro 102 Tryz.func19 rfl rfl Tryz.call19 rfl ?_;intro C hC hro
 repeat (first | refine zz ?_ | refine zx fun _=> ?_)
 rename_i bx bY
 refine run_cond rfl (fun h=> ?_) (fun h=> ?_)
 ·have hrf:r=false:=by
   cases r with
   | false=>rfl
   | true=>
     exfalso
     have he:=hr.1 rfl
     simp only [Ax.aa,Aa.mk.injEq] at he
     obtain ⟨e1,e2,e3,e4,e5,e6,e7,e8⟩:=he
     have e9:x.gives.len=y.gives.len:=by rw [←l1,←l2,e5]
     have e10:x.steps.len=y.steps.len:=by have:=congrArg List.length e8;simpa [l3,l4] using this
     simp [e1,e2,e3,e4,e6,e7,e9,e10] at h
  subst hrf
  repeat (first | refine zz ?_ | refine zx fun _=> ?_)
  exact run_ret hC (rs:= [.tmp 4]) rfl (resT rfl resN) (fun _ h=>h.drop.drop) ⟨rfl,rfl,rfl⟩
 have hall:x.do_=y.do_∧x.org=y.org∧x.auditor=y.auditor∧x.n=y.n∧x.txn=y.txn∧x.yes=y.yes∧x.gives.len=y.gives.len∧x.steps.len=y.steps.len:=by
  simp only [Bool.or_eq_false_iff,bne_eq_false_iff_eq,Bool.not_eq_false',Bool.and_eq_true,beq_iff_eq,and_true] at h
  obtain ⟨⟨⟨⟨⟨⟨⟨e1,e2⟩,e3⟩,e4⟩,e5,e6,e7⟩,e8⟩,e9⟩,e10⟩:=h
  refine ⟨e1,e2,e3,e4, ?_,e8,by omega,by omega⟩
  cases hxt:x.txn
  cases hyt:y.txn
  rw [hxt,hyt] at e5 e6 e7
  simp only at e5 e6 e7
  rw [e5,e6,e7]
 obtain ⟨e1,e2,e3,e4,e6,e7,e9,e10⟩:=hall
 have hr2:r=true↔x.gives.xs=y.gives.xs∧x.steps.xs.map Sr.sp=y.steps.xs.map Sr.sp:=by
  rw [hr]
  simp only [Ax.aa,Aa.mk.injEq]
  exact ⟨fun q=>⟨q.2.2.2.2.1,q.2.2.2.2.2.2.2⟩,fun q=>⟨e1,e2,e3,e4,q.1,e6,e7,q.2⟩⟩
 repeat (first | refine zz ?_ | refine zx fun _=> ?_)
 refine run_loopN (fun j σ1 M1 L1=>j≤x.gives.len∧M=M1∧x.gives.xs.take j=y.gives.xs.take j∧L1=(bY,.cells ⟨axC y⟩ 28 (0,0))::(bx,.cells ⟨axC x⟩ 28 (0,0))::L∧σ1= [(5,.int .i64 (j:Int)),(2,.pointer (some ⟨bx,0,none⟩)),(3,.pointer (some ⟨bY,0,none⟩))]) x.gives.len [(5,.int .i64 ((0:Nat):Int)),(2,.pointer (some ⟨bx,0,none⟩)),(3,.pointer (some ⟨bY,0,none⟩))] ?_ ⟨Nat.zero_le _,rfl,by simp,rfl,rfl⟩ (fun j _ _ _ h=>h.1) ?_
 ·exact ⟨rfl,rfl,rfl,trivial⟩
 rintro j _ _ _ ⟨hj,rfl,heq,rfl,rfl⟩ hnext
 repeat (first | refine zz ?_ | refine zx fun _=> ?_)
 refine run_cond rfl (fun h=> ?_) (fun h=> ?_)
 ·have hlt:j<x.gives.len:=by simpa using h
  obtain ⟨b,off,m,hma,hm,hc⟩:=SMb.at_ hx.gives.1 hlt
  have hv:x.gives.v= .slice (some ⟨b,off,none⟩) x.gives.len x.gives.cap:=by rw [←hma];rfl
  obtain ⟨b',off',m',hma',hm',hc'⟩:=SMb.at_ hy.gives.1 (show j<y.gives.len by omega)
  have hv':y.gives.v= .slice (some ⟨b',off',none⟩) y.gives.len y.gives.cap:=by rw [←hma'];rfl
  repeat (first | refine zz ?_ | refine zx fun _=> ?_)
  repeat (first | refine zz ?_ | refine zx fun _=> ?_ | refine dd ?_ | refine dz ?_ | refine dx fun _=> ?_)
  refine pr_as 73 (.slice (some ⟨b,off,none⟩) x.gives.len x.gives.cap) rfl hv ?_
  repeat (first | refine zz ?_ | refine zx fun _=> ?_ | refine dd ?_ | refine dz ?_ | refine dx fun _=> ?_ | refine prn_q rfl (qt_indexN tok rfl rfl rfl rfl (fun _=>by omega)) (by decide+kernel) rfl rfl rfl ?_ | refine prn_g rfl rfl rfl (qt_indexN tok rfl rfl rfl rfl (fun _=>by omega)) (by decide+kernel) rfl rfl rfl rfl rfl ?_ | refine prn_q rfl (qt_ldM tok rfl hc rfl) (by decide+kernel) rfl rfl rfl ?_ | refine prn_g rfl rfl rfl (qt_ldM tok rfl hc rfl) (by decide+kernel) rfl rfl rfl rfl rfl ?_ | refine prn_q rfl (qt_ldM0 tok rfl hc rfl) (by decide+kernel) rfl rfl rfl ?_ | refine prn_g rfl rfl rfl (qt_ldM0 tok rfl hc rfl) (by decide+kernel) rfl rfl rfl rfl rfl ?_)
  refine pr_as 78 (.slice (some ⟨b',off',none⟩) y.gives.len y.gives.cap) rfl hv' ?_
  repeat (first | refine zz ?_ | refine zx fun _=> ?_ | refine dd ?_ | refine dz ?_ | refine dx fun _=> ?_ | refine prn_q rfl (qt_indexN tok rfl rfl rfl rfl (fun _=>by omega)) (by decide+kernel) rfl rfl rfl ?_ | refine prn_g rfl rfl rfl (qt_indexN tok rfl rfl rfl rfl (fun _=>by omega)) (by decide+kernel) rfl rfl rfl rfl rfl ?_ | refine prn_q rfl (qt_ldM tok rfl hc' rfl) (by decide+kernel) rfl rfl rfl ?_ | refine prn_g rfl rfl rfl (qt_ldM tok rfl hc' rfl) (by decide+kernel) rfl rfl rfl rfl rfl ?_ | refine prn_q rfl (qt_ldM0 tok rfl hc' rfl) (by decide+kernel) rfl rfl rfl ?_ | refine prn_g rfl rfl rfl (qt_ldM0 tok rfl hc' rfl) (by decide+kernel) rfl rfl rfl rfl rfl ?_)
  have hmb: ∀t:Bool,(!(m.org==m'.org&&((m.digest.toList==m'.digest.toList)&&true)))=t→(t=true↔m≠m'):=by
   rintro _ rfl
   obtain ⟨o,g⟩:=m
   obtain ⟨o',g'⟩:=m'
   rw [bytes_beq]
   simp
   exact ⟨fun h q1 q2=>h.elim (fun q=>q q1) (fun q=>q q2),fun h=>by
    by_cases q:o=o'
    ·exact .inr (h q)
    ·exact .inl q⟩
  refine run_cond rfl (fun h=> ?_) (fun h=> ?_)
  ·have hne:=(hmb true h).1 rfl
   have hrf:r=false:=by
    cases r with
    | false=>rfl
    | true=>
      have he:=(hr2.1 rfl).1
      rw [he,hm'] at hm
      cases hm
      exact absurd rfl hne
   subst hrf
   repeat (first | refine zz ?_ | refine zx fun _=> ?_)
   exact run_ret hC (rs:= [.tmp 4]) rfl (resT rfl resN) (fun _ h=>h.drop.drop) ⟨rfl,rfl,rfl⟩
  ·have hmm:m=m':=Classical.byContradiction fun hne=>by have:=(hmb false h).2 hne;cases this
   subst hmm
   repeat (first | refine zz ?_ | refine zx fun _=> ?_)
   refine run_sub' (hnext _ _ _ ⟨hlt,rfl, ?_,rfl,rfl⟩) ⟨lk_succ rfl (by omega),rfl,rfl,trivial⟩
   rw [take_snoc hm,take_snoc hm',heq]
 have hge:j=x.gives.len:=by simp at h;omega
 subst hge
 rw [List.take_of_length_le (by omega),List.take_of_length_le (by omega)] at heq
 clear hnext
 repeat (first | refine zz ?_ | refine zx fun _=> ?_)
 refine run_loopN (fun j σ1 M1 L1=>j≤x.steps.len∧M=M1∧(x.steps.xs.map Sr.sp).take j=(y.steps.xs.map Sr.sp).take j∧L1=(bY,.cells ⟨axC y⟩ 28 (0,0))::(bx,.cells ⟨axC x⟩ 28 (0,0))::L∧σ1= [(6,.int .i64 (j:Int)),(2,.pointer (some ⟨bx,0,none⟩)),(3,.pointer (some ⟨bY,0,none⟩))]) x.steps.len [(6,.int .i64 ((0:Nat):Int)),(2,.pointer (some ⟨bx,0,none⟩)),(3,.pointer (some ⟨bY,0,none⟩))] ?_ ⟨Nat.zero_le _,rfl,by simp,rfl,rfl⟩ (fun j _ _ _ h=>h.1) ?_
 ·exact ⟨rfl,rfl,rfl,trivial⟩
 rintro j _ _ _ ⟨hj,rfl,heqs,rfl,rfl⟩ hnext
 repeat (first | refine zz ?_ | refine zx fun _=> ?_)
 refine run_cond rfl (fun h=> ?_) (fun h=> ?_)
 ·have hlt:j<x.steps.len:=by simpa using h
  obtain ⟨b,off,m,hma,hm,hc⟩:=SSr.at_ hx.steps.sl hlt
  have hv:x.steps.v= .slice (some ⟨b,off,none⟩) x.steps.len x.steps.cap:=by rw [←hma];rfl
  obtain ⟨b',off',m',hma',hm',hc'⟩:=SSr.at_ hy.steps.sl (show j<y.steps.len by omega)
  have hv':y.steps.v= .slice (some ⟨b',off',none⟩) y.steps.len y.steps.cap:=by rw [←hma'];rfl
  have hmo:=hx.steps.each m (List.mem_of_getElem? hm)
  have hmo':=hy.steps.each m' (List.mem_of_getElem? hm')
  have hms:(x.steps.xs.map Sr.sp)[j]? =some m.sp:=by rw [List.getElem?_map,hm];rfl
  have hms':(y.steps.xs.map Sr.sp)[j]? =some m'.sp:=by rw [List.getElem?_map,hm'];rfl
  repeat (first | refine zz ?_ | refine zx fun _=> ?_)
  repeat (first | refine zz ?_ | refine zx fun _=> ?_ | refine dd ?_ | refine dz ?_ | refine dx fun _=> ?_)
  refine pr_as 91 (.slice (some ⟨b,off,none⟩) x.steps.len x.steps.cap) rfl hv ?_
  repeat (first | refine zz ?_ | refine zx fun _=> ?_ | refine dd ?_ | refine dz ?_ | refine dx fun _=> ?_ | refine prn_q rfl (qt_indexN tok rfl rfl rfl rfl (fun _=>by omega)) (by decide+kernel) rfl rfl rfl ?_ | refine prn_g rfl rfl rfl (qt_indexN tok rfl rfl rfl rfl (fun _=>by omega)) (by decide+kernel) rfl rfl rfl rfl rfl ?_ | refine prn_q rfl (qt_ldM tok rfl hc rfl) (by decide+kernel) rfl rfl rfl ?_ | refine prn_g rfl rfl rfl (qt_ldM tok rfl hc rfl) (by decide+kernel) rfl rfl rfl rfl rfl ?_ | refine prn_q rfl (qt_ldM0 tok rfl hc rfl) (by decide+kernel) rfl rfl rfl ?_ | refine prn_g rfl rfl rfl (qt_ldM0 tok rfl hc rfl) (by decide+kernel) rfl rfl rfl rfl rfl ?_)
  refine pr_as 96 (.slice (some ⟨b',off',none⟩) y.steps.len y.steps.cap) rfl hv' ?_
  repeat (first | refine zz ?_ | refine zx fun _=> ?_ | refine dd ?_ | refine dz ?_ | refine dx fun _=> ?_ | refine prn_q rfl (qt_indexN tok rfl rfl rfl rfl (fun _=>by omega)) (by decide+kernel) rfl rfl rfl ?_ | refine prn_g rfl rfl rfl (qt_indexN tok rfl rfl rfl rfl (fun _=>by omega)) (by decide+kernel) rfl rfl rfl rfl rfl ?_ | refine prn_q rfl (qt_ldM tok rfl hc' rfl) (by decide+kernel) rfl rfl rfl ?_ | refine prn_g rfl rfl rfl (qt_ldM tok rfl hc' rfl) (by decide+kernel) rfl rfl rfl rfl rfl ?_ | refine prn_q rfl (qt_ldM0 tok rfl hc' rfl) (by decide+kernel) rfl rfl rfl ?_ | refine prn_g rfl rfl rfl (qt_ldM0 tok rfl hc' rfl) (by decide+kernel) rfl rfl rfl rfl rfl ?_ | refine prn_q rfl (qt_callF rfl (fun _=>refSameStep_ok _ _ m m' hmo hmo')) (by decide+kernel) rfl rfl rfl ?_)
  refine run_cond rfl (fun h=> ?_) (fun h=> ?_)
  ·have hrf:r=false:=by
    cases r with
    | false=>rfl
    | true=>
      have he:=(hr2.1 rfl).2
      rw [he,hms'] at hms
      have hse:sameSp m.sp m'.sp=false:=by simpa using h
      have:sameSp m.sp m'.sp=true:=(sameSp_iff _ _).2 (Option.some.inj hms).symm
      rw [hse] at this;cases this
   subst hrf
   repeat (first | refine zz ?_ | refine zx fun _=> ?_)
   exact run_ret hC (rs:= [.tmp 4]) rfl (resT rfl resN) (fun _ h=>h.drop.drop) ⟨rfl,rfl,rfl⟩
  ·have hmm:m.sp=m'.sp:=(sameSp_iff _ _).1 (by simpa using h)
   repeat (first | refine zz ?_ | refine zx fun _=> ?_)
   refine run_sub' (hnext _ _ _ ⟨hlt,rfl, ?_,rfl,rfl⟩) ⟨lk_succ rfl (by omega),rfl,rfl,trivial⟩
   rw [take_snoc hms,take_snoc hms',heqs,hmm]
 have hge:j=x.steps.len:=by simp at h;omega
 subst hge
 rw [List.take_of_length_le (by rw [List.length_map];omega),List.take_of_length_le (by rw [List.length_map];omega)] at heqs
 have hrt:r=true:=hr2.2 ⟨heq,heqs⟩
 subst hrt
 repeat (first | refine zz ?_ | refine zx fun _=> ?_)
 exact run_ret hC (rs:= [.tmp 4]) rfl (resT rfl resN) (fun _ h=>h.drop.drop) ⟨rfl,rfl,rfl⟩
set_option maxRecDepth 10000 in
theorem refSame_ok (M:Mem) (L:HL) (p q:SAx) (hp:SaOk M p) (hq:SaOk M q) (r:Bool) (hr:r=true↔p.xs.map Ax.aa=q.xs.map Ax.aa):TrQ Tryz.prog 26 [p.v,q.v] M L (.bool r):=by
 have l1:=hp.len
 have l2:=hq.len
 have n1:=hp.lt
 have n2:=hq.lt
 obtain ⟨pa,pl,pc,px⟩:=p
 obtain ⟨qa,ql,qc,qx⟩:=q
 simp only [SAx.v] at*
 refine Tr.intro 27 Tryz.func26 rfl rfl Tryz.call26 rfl ?_;intro C hC hro
 repeat (first | refine zz ?_ | refine zx fun _=> ?_)
 refine run_cond rfl (fun h=> ?_) (fun h=> ?_)
 ·have hrf:r=false:=by
   cases r with
   | false=>rfl
   | true=>
     have he:=congrArg List.length (hr.1 rfl)
     simp only [List.length_map] at he
     simp at h
     omega
  subst hrf
  repeat (first | refine zz ?_ | refine zx fun _=> ?_)
  exact run_ret hC (rs:= [.tmp 4]) rfl (resT rfl resN) (fun _ h=>h) ⟨rfl,rfl,rfl⟩
 have he:pl=ql:=by simp at h;omega
 subst he
 repeat (first | refine zz ?_ | refine zx fun _=> ?_)
 refine run_loopN (fun j σ1 M1 L1=>j≤pl∧M=M1∧L=L1∧(px.map Ax.aa).take j=(qx.map Ax.aa).take j∧σ1= [(5,.int .i64 (j:Int)),(0,.slice pa pl pc),(1,.slice qa pl qc)]) pl [(5,.int .i64 ((0:Nat):Int)),(0,.slice pa pl pc),(1,.slice qa pl qc)] ?_ ⟨Nat.zero_le _,rfl,rfl,by simp,rfl⟩ (fun j _ _ _ h=>h.1) ?_
 ·exact ⟨rfl,rfl,rfl,trivial⟩
 rintro j _ _ _ ⟨hj,rfl,rfl,heq,rfl⟩ hnext
 repeat (first | refine zz ?_ | refine zx fun _=> ?_)
 refine run_cond rfl (fun h=> ?_) (fun h=> ?_)
 ·have hlt:j<pl:=by simpa using h
  obtain ⟨b,off,m,rfl,hm,hc⟩:=SAx.at_ hp.sl hlt
  obtain ⟨b',off',m',rfl,hm',hc'⟩:=SAx.at_ hq.sl hlt
  have hmo:=hp.each m (List.mem_of_getElem? hm)
  have hmo':=hq.each m' (List.mem_of_getElem? hm')
  have hms:(px.map Ax.aa)[j]? =some m.aa:=by rw [List.getElem?_map,hm];rfl
  have hms':(qx.map Ax.aa)[j]? =some m'.aa:=by rw [List.getElem?_map,hm'];rfl
  obtain ⟨r2,hr2⟩: ∃r2:Bool,r2=true↔m.aa=m'.aa:=by
   by_cases e:m.aa=m'.aa
   ·exact ⟨true,by simp [e]⟩
   ·exact ⟨false,by simp [e]⟩
  repeat (first | refine zz ?_ | refine zx fun _=> ?_ | refine dd ?_ | refine dz ?_ | refine dx fun _=> ?_ | refine prn_q rfl (qt_indexN tok rfl rfl rfl rfl (fun _=>by omega)) (by decide+kernel) rfl rfl rfl ?_ | refine prn_g rfl rfl rfl (qt_indexN tok rfl rfl rfl rfl (fun _=>by omega)) (by decide+kernel) rfl rfl rfl rfl rfl ?_ | refine prn_q rfl (qt_ldM tok rfl hc rfl) (by decide+kernel) rfl rfl rfl ?_ | refine prn_g rfl rfl rfl (qt_ldM tok rfl hc rfl) (by decide+kernel) rfl rfl rfl rfl rfl ?_ | refine prn_q rfl (qt_ldM0 tok rfl hc rfl) (by decide+kernel) rfl rfl rfl ?_ | refine prn_g rfl rfl rfl (qt_ldM0 tok rfl hc rfl) (by decide+kernel) rfl rfl rfl rfl rfl ?_ | refine prn_q rfl (qt_ldM tok rfl hc' rfl) (by decide+kernel) rfl rfl rfl ?_ | refine prn_g rfl rfl rfl (qt_ldM tok rfl hc' rfl) (by decide+kernel) rfl rfl rfl rfl rfl ?_ | refine prn_q rfl (qt_ldM0 tok rfl hc' rfl) (by decide+kernel) rfl rfl rfl ?_ | refine prn_g rfl rfl rfl (qt_ldM0 tok rfl hc' rfl) (by decide+kernel) rfl rfl rfl rfl rfl ?_ | refine prn_q rfl (qt_callF rfl (fun _=>refSameAct_ok _ _ m m' hmo hmo' r2 hr2)) (by decide+kernel) rfl rfl rfl ?_)
  refine run_cond rfl (fun h=> ?_) (fun h=> ?_)
  ·have hrf:r=false:=by
    cases r with
    | false=>rfl
    | true=>
      have he:=hr.1 rfl
      rw [he,hms'] at hms
      have h2:r2=true:=hr2.2 (Option.some.inj hms).symm
      rw [h2] at h;cases h
   subst hrf
   repeat (first | refine zz ?_ | refine zx fun _=> ?_)
   exact run_ret hC (rs:= [.tmp 4]) rfl (resT rfl resN) (fun _ h=>h) ⟨rfl,rfl,rfl⟩
  ·have hmm:m.aa=m'.aa:=hr2.1 (by simpa using h)
   repeat (first | refine zz ?_ | refine zx fun _=> ?_)
   refine run_sub' (hnext _ _ _ ⟨hlt,rfl,rfl, ?_,rfl⟩) ⟨lk_succ rfl (by omega),rfl,rfl,trivial⟩
   rw [take_snoc hms,take_snoc hms',heq,hmm]
 ·have hge:j=pl:=by simp at h;omega
  subst hge
  rw [List.take_of_length_le (by rw [List.length_map];omega),List.take_of_length_le (by rw [List.length_map];omega)] at heq
  have hrt:r=true:=hr.2 heq
  subst hrt
  repeat (first | refine zz ?_ | refine zx fun _=> ?_)
  exact run_ret hC (rs:= [.tmp 4]) rfl (resT rfl resN) (fun _ h=>h) ⟨rfl,rfl,rfl⟩
theorem strs_at {M:Mem} {b:Nat} {xs:List ByteArray} (n:Nat) (hn:xs.length=n) (h6:n<1000000) (h:M.blk b=some (.cells ⟨xs.map Value.string⟩ 9 (0,0))):StOk M ⟨some ⟨b,0,none⟩,n,n,xs⟩:=by
 subst hn
 have hsl:=SlM.ofBlk (size:=1) (ls:=xs.map stC) h (strs_flat xs) (fun l hl=>by obtain ⟨x,_,rfl⟩:=List.mem_map.1 hl;rfl)
 rw [List.length_map] at hsl
 exact ⟨hsl,h6⟩
theorem names_ok (M:Mem) (L:HL):Tr Tryz.prog 28 [] M L (fun v M' L'=>M.le M'∧L'=L∧ ∃b,v= .slice (some ⟨b,0,none⟩) 3 3∧StOk M' ⟨some ⟨b,0,none⟩,3,3,nm3⟩):=by
 refine Tr.intro 2 Tryz.func28 rfl rfl Tryz.call28 rfl ?_;intro C hC hro
 repeat (first | refine yy ?_ | refine yx fun _=> ?_)
 refine run_frzL [_] fun M1 hM1 hb=> ?_
 exact run_ret hC (rs:= [.tmp 0]) rfl (resT rfl resN) (fun _ h=>h) ⟨hM1,rfl,_,rfl,strs_at (xs:=nm3) 3 rfl (by decide) (hb _ List.mem_cons_self)⟩
theorem nm3_sz: ∀x∈nm3,x.size<1000000:=by decide
theorem kot_sz: ∀x∈kot2,x.size<1000000:=by decide
theorem alive_ok (M:Mem) (L:HL) (hG:G38 M):Tr Tryz.prog 10 [] M L (fun v M' L'=>M.le M'∧L'=L∧v= .bool true):=by
 refine Tr.intro 77 Tryz.func10 rfl rfl Tryz.call10 rfl ?_;intro C hC hro
 refine run_seq ?_
 (refine run_region ?_;(repeat (first | refine zq ?_ | refine zx fun _=> ?_));refine runL_nil ?_)
 refine run_seq ?_
 refine run_region ?_
 refine oc (names_ok _ _) ?_
 rintro _ M1 _ ⟨hM1,rfl,b1,rfl,hS1⟩
 repeat (first | refine yy ?_ | refine yx fun _=> ?_)
 rename_i b2
 refine runL_frzL [_] fun M2 hM2 hb2=> ?_
 have hM12:=Mem.le_trans hM1 hM2
 have hgv:MbOk M2 ⟨some ⟨b2,0,none⟩,1,1,[⟨1,⟨#[100,2,104,105]⟩⟩]⟩:=⟨SlM.ofBlk (size:=2) (ls:= [mbC ⟨1,⟨#[100,2,104,105]⟩⟩]) (hb2 _ List.mem_cons_self) rfl (fun l hl=>by obtain rfl:=List.mem_singleton.1 hl;rfl),by show (1:Nat)<1000000;decide⟩
 have hax:AxOk M2 ⟨1,0,2,0,⟨some ⟨b2,0,none⟩,1,1,[⟨1,⟨#[100,2,104,105]⟩⟩]⟩,tz,false,noS⟩:=⟨hgv,noS_ok _,fun m hm=>by obtain rfl:=List.mem_singleton.1 hm;show (4:Nat)<1099511627776;decide⟩
 have hln:=fun L=>tline_ok M2 L (hG.le hM12) _ (hS1.le hM2) (Nat.le_refl _) nm3_sz _ hax
 have e1: ∀g,lineA nm3 (Ax.aa ⟨1,0,2,0,g,tz,false,noS⟩)=lineA nm3 ⟨1,0,2,0,g.xs,tz,false,[]⟩:=fun _=>rfl
 rw [e1] at hln
 have e2:lineA nm3 ⟨1,0,2,0,[⟨1,⟨#[100,2,104,105]⟩⟩],tz,false,[]⟩=(exS1,0):=al_line
 rw [e2] at hln
 refine qc (hln _) ?_
 repeat (first | refine yy ?_ | refine yx fun _=> ?_)
 refine run_cond (t:= !(exS1.toList==exS1.toList)||((0:Int) !=0)) rfl (fun h=>by rw [bytes_beq] at h;simp at h) (fun _=> ?_)
 repeat (first | refine zc ?_)
 refine oc (names_ok _ _) ?_
 rintro _ M3 _ ⟨hM3,rfl,b3,rfl,hS3⟩
 have hM13:=Mem.le_trans hM12 hM3
 have hpr:=fun L=>tparse_ok M3 L (hG.le hM13) _ hS3 (Nat.le_refl _) nm3_sz exS2 (by decide)
 dsimp only at hpr
 rw [al_parse] at hpr
 refine oc (hpr _) ?_
 rintro _ M4 _ ⟨hM4,rfl,ax2,hax2,haa2,rfl⟩
 have hM14:=Mem.le_trans hM13 hM4
 repeat (first | refine yy ?_ | refine yx fun _=> ?_)
 rename_i b4
 refine qc (refSameAct_ok _ _ ax2 ⟨2,1,0,0,noG,⟨0,1,2⟩,true,noS⟩ hax2 axTx_ok true (by rw [haa2];exact ⟨fun _=>rfl,fun _=>rfl⟩)) ?_
 repeat (first | refine yk ?_ | refine yx fun _=> ?_)
 refine run_cond (t:=false) rfl (fun h=>by cases h) (fun _=> ?_)
 repeat (first | refine zc ?_)
 refine oc (names_ok _ _) ?_
 rintro _ M5 _ ⟨hM5,rfl,b5,rfl,hS5⟩
 have hM15:=Mem.le_trans hM14 hM5
 have hrd:=fun L=>tread_ok M5 L (hG.le hM15) _ hS5 (Nat.le_refl _) nm3_sz exS3 (by decide)
 dsimp only at hrd
 rw [al_read] at hrd
 refine oc (hrd _) ?_
 rintro _ M6 _ ⟨hM6,rfl,A,hA,hAx,hAc,rfl⟩
 have hA0:A.len=0:=by
  have:=hA.len
  have h2:=congrArg List.length hAx
  rw [List.length_map] at h2
  exact this.symm.trans h2
 have hM16:=Mem.le_trans hM15 hM6
 repeat (first | refine yy ?_ | refine yx fun _=> ?_)
 refine oc (names_ok _ _) ?_
 rintro _ M7 _ ⟨hM7,rfl,b7,rfl,hS7⟩
 have hM17:=Mem.le_trans hM16 hM7
 have hnt:=fun L=>tnote_ok M7 L (hG.le hM17) _ hS7 (Nat.le_refl _) nm3_sz 0 tz 2
 dsimp only at hnt
 rw [al_note] at hnt
 refine yy ?_
 refine qc (hnt _) ?_
 obtain ⟨aa,al,ac,axs⟩:=A
 obtain rfl:al=0:=hA0
 repeat (first | refine yk ?_ | refine yx fun _=> ?_)
 refine runL_as 67 (.bool true) rfl (by
  congr 1
  show ((true&&(exS4.toList==exS4.toList))&&true)=true
  rw [bytes_beq];simp) ?_
 refine yx fun b8=> ?_
 refine runL_frzL [_] fun M8 hM8 hb8=> ?_
 have hM18:=Mem.le_trans hM17 hM8
 have hk:=fun L=>roll_ok M8 L ⟨some ⟨b8,0,none⟩,2,2,kot2⟩ (strs_at (xs:=kot2) 2 rfl (by decide) (hb8 _ List.mem_cons_self)) (Nat.le_refl _) kot_sz
 have hkn: ¬rollB kot2=true:=by rw [al_kot];decide
 dsimp only at hk
 rw [if_neg hkn] at hk
 refine kc (hk _) ?_
 repeat (first | refine yk ?_ | refine yx fun _=> ?_)
 refine ok (names_ok _ _) ?_
 rintro _ M9 _ ⟨hM9,rfl,b9,rfl,hS9⟩
 have hk3:=fun L=>roll_ok M9 L _ hS9 (Nat.le_refl _) nm3_sz
 dsimp only at hk3
 rw [if_pos al_roll] at hk3
 refine kc (hk3 _) ?_
 repeat (first | refine yk ?_ | refine yx fun _=> ?_)
 exact run_ret hC (rs:= [.tmp 0]) rfl (resT rfl resN) (fun _ h=>h.drop) ⟨Mem.le_trans hM18 hM9,rfl,rfl⟩
def longA (names:List ByteArray) (s:ByteArray):Bool:=decide (20<names.length)||(decide (8192<s.size)||names.any fun x=>decide (256<x.size))
theorem longA_no {names:List ByteArray} {s:ByteArray} (h:longA names s=false):names.length≤20∧s.size≤8192∧ ∀x∈names,x.size≤256:=by
 simp only [longA,Bool.or_eq_false_iff,decide_eq_false_iff_not,List.any_eq_false,decide_eq_true_eq] at h
 exact ⟨by omega,by omega,fun x hx=>by have:=h.2.2 x hx;omega⟩
theorem long_ok (M:Mem) (L:HL) (S:SStr) (hS:S.Ok M) (s:ByteArray):TrQ Tryz.prog 8 [S.v,.string s] M L (.bool (longA S.xs s)):=by
 have hl:S.xs.length=S.len:=by have:=hS.1;simpa using this
 refine Tr.intro 26 Tryz.func8 rfl rfl Tryz.call8 rfl ?_;intro C hC hro
 repeat (first | refine yy ?_ | refine yx fun _=> ?_)
 refine run_cond (t:=decide ((S.len:Int)>20)||decide ((s.size:Int)>8192)) rfl (fun h=> ?_) (fun h=> ?_)
 ·repeat (first | refine yy ?_ | refine yx fun _=> ?_)
  exact run_ret hC (rs:= [.tmp 4]) rfl (resT rfl resN) (fun _ h=>h) ⟨by
   have:longA S.xs s=true:=by
    simp only [Bool.or_eq_true,decide_eq_true_eq] at h
    rw [longA,hl]
    rcases h with h | h
    ·rw [decide_eq_true (by omega)];rfl
    ·rw [decide_eq_true (by omega:8192<s.size)];simp
   rw [this];rfl,rfl,rfl⟩
 simp only [Bool.or_eq_false_iff,decide_eq_false_iff_not] at h
 have hlo:longA S.xs s=S.xs.any fun x=>decide (256<x.size):=by
  rw [longA,hl,decide_eq_false (by omega),decide_eq_false (by omega)];rfl
 rw [hlo] at hC
 repeat (first | refine yy ?_ | refine yx fun _=> ?_)
 refine run_loopN (fun j σ1 M1 L1=>j≤S.len∧M=M1∧L=L1∧((S.xs.take j).any fun x=>decide (256<x.size))=false∧σ1= [(5,iv j),(0,S.v)]) S.len [(5,iv 0),(0,S.v)] ?_ ⟨Nat.zero_le _,rfl,rfl,rfl,rfl⟩ (fun j _ _ _ h=>h.1) ?_
 ·exact ⟨rfl,rfl,trivial⟩
 rintro j _ _ _ ⟨hj,rfl,rfl,hno,rfl⟩ hnext
 repeat (first | refine yy ?_ | refine yx fun _=> ?_)
 refine run_cond (t:=decide ((j:Int)<(S.len:Int))) rfl (fun h2=> ?_) (fun h2=> ?_)
 ·have hlt:j<S.len:=by have:=of_decide_eq_true h2;omega
  obtain ⟨b,off,x,ha,hx,hc⟩:=SStr.at_ hS hlt
  have hv:S.v= .slice (some ⟨b,off,none⟩) S.len S.cap:=by rw [←ha];rfl
  refine run_as 0 (.slice (some ⟨b,off,none⟩) S.len S.cap) rfl hv ?_
  repeat (first | refine yy ?_ | refine yx fun _=> ?_)
  refine run_cond (t:=decide ((x.size:Int)>256)) rfl (fun h3=> ?_) (fun h3=> ?_)
  ·have:(S.xs.any fun x=>decide (256<x.size))=true:=List.any_eq_true.2 ⟨x,List.mem_of_getElem? hx,by have:=of_decide_eq_true h3;exact decide_eq_true (by omega)⟩
   rw [this] at hC
   repeat (first | refine yy ?_ | refine yx fun _=> ?_)
   exact run_ret hC (rs:= [.tmp 4]) rfl (resT rfl resN) (fun _ h=>h) ⟨rfl,rfl,rfl⟩
  ·repeat (first | refine yy ?_ | refine yx fun _=> ?_)
   refine run_sub' (hnext _ _ _ ⟨hlt,rfl,rfl, ?_,rfl⟩) ⟨lk_succ rfl (by omega),by rw [hv];rfl,trivial⟩
   rw [take_snoc hx,List.any_append,hno]
   have:=of_decide_eq_false h3
   simp;omega
 ·have hge:j=S.len:=by have:=of_decide_eq_false h2;omega
  rw [List.take_of_length_le (by omega)] at hno
  rw [hno] at hC
  repeat (first | refine yy ?_ | refine yx fun _=> ?_)
  exact run_ret hC (rs:= [.tmp 4]) rfl (resT rfl resN) (fun _ h=>h) ⟨rfl,rfl,rfl⟩
def lookI (r:Int):Int:=(lookO r).getD r
def lookCs:List Int:= [945,1072,1074,1089,1077,953,954,1082,1084,951,1085,959,1086,48,961,1088,964,1090,965,957,967,1093,947,1091,49]
theorem look_not {r:Int} (h:r∉lookCs):lookI r=r:=by
 have h1:lookO r=none:=by
  simp only [lookCs,List.mem_cons,List.not_mem_nil,or_false,not_or] at h
  simp [lookO,tabL,stepO,o0,h]
 rw [lookI,h1];rfl
theorem refLook_ok (M:Mem) (L:HL) (r:Int):TrQ Tryz.prog 100 [.int .i32 r] M L (.int .i32 (lookI r)):=by
 by_cases hm:r∈lookCs
 ·simp only [lookCs,List.mem_cons,List.not_mem_nil,or_false] at hm
  rcases hm with rfl | rfl | rfl | rfl | rfl | rfl | rfl | rfl | rfl | rfl | rfl | rfl | rfl | rfl | rfl | rfl | rfl | rfl | rfl | rfl | rfl | rfl | rfl | rfl | rfl
  all_goals
   refine Tr.intro 46 Tryz.func100 rfl rfl Tryz.call100 rfl ?_;intro C hC hro
   repeat (first | refine yy ?_ | refine run_cond (t:=true) rfl (fun _=> ?_) (fun h=>by cases h) | refine run_cond (t:=false) rfl (fun h=>by cases h) (fun _=> ?_))
   exact run_ret hC (rs:= [.tmp 2]) rfl (resT rfl resN) (fun _ h=>h) ⟨rfl,rfl,rfl⟩
 ·rw [look_not hm]
  simp only [lookCs,List.mem_cons,List.not_mem_nil,or_false,not_or] at hm
  obtain ⟨h1,h2,h3,h4,h5,h6,h7,h8,h9,h10,h11,h12,h13,h14,h15,h16,h17,h18,h19,h20,h21,h22,h23,h24,h25⟩:=hm
  refine Tr.intro 46 Tryz.func100 rfl rfl Tryz.call100 rfl ?_;intro C hC hro
  repeat (first | refine yy ?_ | refine run_cond rfl (fun h=>by simp only [beq_iff_eq] at h;contradiction) (fun _=> ?_))
  exact run_ret hC (rs:= [.tmp 2]) rfl (resT rfl resN) (fun _ h=>h) ⟨rfl,rfl,rfl⟩
def runI (s:ByteArray):List Int:=(runesL s).map fun n:Nat=>(n:Int)
theorem look_run (s:ByteArray):(runI s).map lookI=lookL s:=by
 rw [runI,lookL,List.map_map];rfl
theorem runI_len (s:ByteArray):(runI s).length≤s.size:=by
 have:=rsF_len s s.size 0 (by omega)
 simp only [runI,runesL,List.length_map];omega
theorem refRunes_ok (M:Mem) (L:HL) (s:ByteArray) (hs:s.size<1000000):Tr Tryz.prog 87 [.string s] M L (fun v M' L'=>M=M'∧ ∃a c N,v= .slice a (runI s).length c∧L'=N++L∧OS 21 1 (.slice a (runI s).length c) (runI s).length ((runI s).map (Value.int .i32)) N):=by
 have hlen:=runI_len s
 refine Tr.intro 16 Tryz.func87 rfl rfl Tryz.call87 rfl ?_;intro C hC hro
 repeat (first | refine yy ?_ | refine yx fun _=> ?_ | (refine runL_op (st_rangeS tok rfl rfl) rfl rfl rfl ?_;rintro _ _ _ ⟨b,rfl,rfl,rfl⟩))
 refine run_loopN (fun i σ1 M2 L1=>i≤s.size∧M=M2∧ ∃p xs a c N,i≤p∧xs.length≤i∧xs++((rsF s p).map Prod.snd).map (fun n:Nat=>(n:Int))=runI s∧OS 21 1 (.slice a xs.length c) xs.length (xs.map (Value.int .i32)) N∧L1=N++(b,.stringIter s p)::L∧σ1= [(7,pt b),(3,.slice a xs.length c)]) s.size [(7,pt b),(3,.slice none 0 0)] ?_ ⟨Nat.zero_le _,rfl,0,[],none,0,[],Nat.le_refl _,Nat.le_refl _,rfl,.inl ⟨rfl,rfl,rfl,rfl⟩,rfl,rfl⟩ (fun j _ _ _ h=>h.1) ?_
 ·exact ⟨rfl,rfl,trivial⟩
 rintro i _ _ _ ⟨hi,rfl,p,xs,a,c,N,hip,hxi,hn,hO,rfl,rfl⟩ hnext
 by_cases hlt:p<s.size
 ·have hwd:=decode_wide s hlt
  rw [rsF_lt hlt,List.map_cons,List.map_cons] at hn
  have hxl:xs.length+1≤(runI s).length:=by rw [←hn];simp
  repeat (first | refine yy ?_ | refine yx fun _=> ?_ | (refine runL_op (st_nextS rfl (by (repeat (first | with_reducible apply Upd.here | with_reducible apply Upd.there | with_reducible apply Upd.append_left))) hlt) rfl rfl rfl ?_;rintro _ _ _ ⟨rfl,rfl,rfl⟩) | refine run_cond (t:=true) rfl (fun _=> ?_) (fun h=>by cases h))
  generalize (Utf8.decode s p).1=r at*
  generalize (Utf8.decode s p).2=w at*
  (refine ro (st_app1 (n:=xs.length) (news:= [.int .i32 (r:Int)]) tok rfl rfl rfl rfl rfl rfl rfl rfl hO rfl (by intro u hu;simp at hu;subst hu;rfl) (by omega) (by omega)) ?_;rintro _ _ _ ⟨rfl,N',a',c',rfl,rfl,hO'⟩)
  repeat (first | refine yy ?_ | refine yx fun _=> ?_)
  refine run_sub' (hnext _ _ _ ⟨by omega,rfl,p+w,xs++ [(r:Int)],a',c',N',by omega,by simp;omega,by simpa using hn,by rw [List.length_append,List.map_append];exact hO',rfl,rfl⟩) ⟨rfl,by rw [List.length_append];rfl,trivial⟩
 ·rw [rsF_ge hlt,List.map_nil,List.map_nil,List.append_nil] at hn
  repeat (first | refine yy ?_ | refine yx fun _=> ?_ | refine runL_q (qt_nextEnd rfl (by (repeat (first | with_reducible apply List.mem_cons_self | with_reducible assumption | with_reducible apply List.mem_cons_of_mem | with_reducible apply List.mem_append_right))) hlt) rfl rfl rfl ?_ | refine run_cond (t:=false) rfl (fun h=>by cases h) (fun _=> ?_))
  subst hn
  exact run_ret hC (rs:= [.tmp 2]) rfl (resT rfl resN) (fun _ h=>(h.perm ((List.perm_middle (l₁:=N)).trans (List.Perm.refl _))).drop) ⟨rfl,a,c,N,rfl,rfl,hO⟩
def rwI (xs:List Int) (j:Nat) (post:List Value):List Value:=((xs.take j).map lookI++xs.drop j).map (Value.int .i32)++post
theorem rwI_get {xs:List Int} {j:Nat} {x:Int} (post:List Value) (h:xs[j]? =some x):(rwI xs j post)[0+j*1]? =some (.int .i32 x):=by
 have hl:=(List.getElem?_eq_some_iff.1 h).1
 have hd:xs.drop j=x::xs.drop (j+1):=by rw [List.drop_eq_getElem_cons hl,(List.getElem?_eq_some_iff.1 h).2]
 rw [rwI,hd,Nat.zero_add,Nat.mul_one,List.map_append,List.append_assoc,List.getElem?_append_right (by simp;omega)]
 simp [Nat.min_eq_left (Nat.le_of_lt hl)]
theorem rwI_set {xs:List Int} {j:Nat} {x:Int} (post:List Value) (h:xs[j]? =some x):setE (rwI xs j post) (0+j*1) (cellsL (.int .i32 (lookI x)))=some (rwI xs (j+1) post):=by
 have hl:=(List.getElem?_eq_some_iff.1 h).1
 have hd:xs.drop j=x::xs.drop (j+1):=by rw [List.drop_eq_getElem_cons hl,(List.getElem?_eq_some_iff.1 h).2]
 have e:=setE_mid (pre:=((xs.take j).map lookI).map (Value.int .i32)) (x:= [Value.int .i32 x]) (x':= [.int .i32 (lookI x)]) (post:=(xs.drop (j+1)).map (Value.int .i32)++post) (vs:= [.int .i32 (lookI x)]) (j:=0) rfl
 rw [List.length_map,List.length_map,List.length_take,Nat.min_eq_left (Nat.le_of_lt hl)] at e
 rw [rwI,hd,rwI,take_snoc h,Nat.zero_add,Nat.mul_one]
 simp only [List.map_append,List.map_cons,List.map_nil,List.append_assoc,List.cons_append,List.nil_append] at e⊢
 exact e
theorem refLooks_ok (M:Mem) (L:HL) (s:ByteArray) (hs:s.size<1000000):Tr Tryz.prog 57 [.string s] M L (fun v M' L'=>M.le M'∧L'=L∧ ∃a c,v= .slice a (lookL s).length c∧SlM M' 1 a (lookL s).length ((lookL s).map iC)):=by
 have hlen:=runI_len s
 have hll:(lookL s).length=(runI s).length:=by rw [←look_run,List.length_map]
 refine Tr.intro 22 Tryz.func57 rfl rfl Tryz.call57 rfl ?_;intro C hC hro
 repeat (first | refine yy ?_ | refine yx fun _=> ?_ | (refine oc (refRunes_ok _ _ s hs) ?_;rintro _ _ _ ⟨rfl,a,c,N,rfl,rfl,hO⟩))
 rcases hO with ⟨hv,h0,_,rfl⟩ | ⟨b,cap,cs,hv,rfl,hle,hcl,hcs⟩
 ·injection hv with e1 e2 e3
  subst e1 e3
  have hnil:lookL s= []:=List.length_eq_zero_iff.1 (by omega)
  rw [h0]
  refine run_loop ?_
  repeat (first | refine yy ?_ | refine yx fun _=> ?_)
  refine run_cond (t:=decide ((0:Int)<((0:Nat):Int))) rfl (fun h=>by cases h) (fun _=> ?_)
  repeat (first | refine yy ?_ | refine yx fun _=> ?_)
  exact run_ret hC (rs:= [.tmp 2]) rfl (resT rfl resN) (fun _ h=>h) ⟨Mem.le_refl _,rfl,none,0,by rw [hnil];rfl,by rw [hnil];exact ⟨rfl,(fun _ h=>by cases h),.inl rfl⟩⟩
 ·injection hv with e1 e2 e3
  subst e1 e3
  clear e2
  generalize hxs:runI s=xs at*
  obtain ⟨post,hpost⟩: ∃post,cs=rwI xs 0 post:=⟨cs.drop xs.length,by
   have:=List.take_append_drop xs.length cs
   rw [Nat.mul_one] at hcs
   rw [hcs] at this
   rw [rwI,List.take_zero,List.map_nil,List.nil_append,List.drop_zero,this]⟩
  subst hpost
  refine run_loopN (fun j σ1 M1 L1=>j≤xs.length∧M=M1∧L1=(b,.cells ⟨rwI xs j post⟩ 21 (0,0))::L∧σ1= [(4,iv j),(3,.slice (some ⟨b,0,none⟩) xs.length c)]) xs.length [(4,iv 0),(3,.slice (some ⟨b,0,none⟩) xs.length c)] ?_ ⟨Nat.zero_le _,rfl,rfl,rfl⟩ (fun j _ _ _ h=>h.1) ?_
  ·exact ⟨rfl,rfl,trivial⟩
  rintro j _ _ _ ⟨hj,rfl,rfl,rfl⟩ hnext
  repeat (first | refine yy ?_ | refine yx fun _=> ?_)
  refine run_cond (t:=decide ((j:Int)<(xs.length:Int))) rfl (fun h=> ?_) (fun h=> ?_)
  ·have hlt:j<xs.length:=by have:=of_decide_eq_true h;omega
   have hx:xs[j]? =some xs[j]:=List.getElem?_eq_getElem hlt
   generalize xs[j]=x at hx
   repeat (first | refine yy ?_ | refine yx fun _=> ?_ | refine vq ?_ (qt_ld tok rfl List.mem_cons_self (ldE_at rfl (rwI_get post hx))) | refine qc (refLook_ok _ _ x) ?_ | refine ws ?_ rfl rfl rfl rfl rfl (Upd.here _ _ _ _) (rwI_set post hx))
   exact run_sub' (hnext _ _ _ ⟨hlt,rfl,rfl,rfl⟩) ⟨lk_succ rfl (by omega),rfl,trivial⟩
  ·have hge:j=xs.length:=by have:=of_decide_eq_false h;omega
   subst hge
   repeat (first | refine yy ?_ | refine yx fun _=> ?_)
   refine run_frzL [_] fun M1 hM1 hb=> ?_
   have hrow:rwI xs xs.length post=((lookL s).map iC).flatten++post:=by
    rw [rwI,List.take_length,List.drop_length,List.append_nil,←look_run,hxs]
    congr 1
    generalize xs.map lookI=ys
    induction ys with
    | nil=>rfl
    | cons y l ih=>rw [List.map_cons,ih];rfl
   have hb0:=hb _ List.mem_cons_self
   refine run_ret hC (rs:= [.tmp 2]) rfl (resT rfl resN) (fun _ h=>h) ⟨hM1,rfl,some ⟨b,0,none⟩,c,by rw [hll];rfl,by rw [List.length_map],(fun l hl=>by obtain ⟨x,_,rfl⟩:=List.mem_map.1 hl;rfl),.inr ⟨b,0,rfl,fun i c hc=>⟨_,_,_,.inr hb0,fun k v hv=> ?_⟩⟩⟩
   have:=flat_at (fun l hl=>by obtain ⟨x,_,rfl⟩:=List.mem_map.1 hl;rfl) hc hv
   rw [hrow]
   rw [List.getElem?_toArray,Nat.zero_add,List.getElem?_append_left (List.getElem?_eq_some_iff.1 this).1]
   exact this
def cmpK (xs ys:List Int) (v:Value):Prop:= ∃c:Int,v= .int .i64 c∧(c=0↔xs=ys)
theorem SlC.at_ {M:Mem} {a:Option Addr} {len:Nat} {xs:List Int} (h:SlM M 1 a len (xs.map iC)) {j:Nat} (hj:j<len): ∃b off m,a=some ⟨b,off,none⟩∧xs[j]? =some m∧Cells M [] b (off+j*1) (iC m):=by
 obtain ⟨b,off,c,ha,hc,_,hcells⟩:=h.at_ hj
 obtain ⟨m,hm,rfl⟩: ∃m,xs[j]? =some m∧iC m=c:=by simpa using hc
 exact ⟨b,off,m,ha,hm,hcells⟩
theorem refCompare_ok (M:Mem) (L:HL) (xs ys:List Int) (a b:Option Addr) (c d:Nat) (hx:SlM M 1 a xs.length (xs.map iC)) (hy:SlM M 1 b ys.length (ys.map iC)) (h6:xs.length<1000000):Tr Tryz.prog 56 [.slice a xs.length c,.slice b ys.length d] M L (fun v M' L'=>M=M'∧L'=L∧cmpK xs ys v):=by
 refine Tr.intro 46 Tryz.func56 rfl rfl Tryz.call56 rfl ?_;intro C hC hro
 repeat (first | refine yy ?_ | refine yx fun _=> ?_)
 refine run_loopN (fun j σ1 M1 L1=>j≤xs.length∧M=M1∧L=L1∧j≤ys.length∧xs.take j=ys.take j∧σ1= [(5,iv j),(0,.slice a xs.length c),(1,.slice b ys.length d)]) xs.length [(5,iv 0),(0,.slice a xs.length c),(1,.slice b ys.length d)] ?_ ⟨Nat.zero_le _,rfl,rfl,Nat.zero_le _,rfl,rfl⟩ (fun j _ _ _ h=>h.1) ?_
 ·exact ⟨rfl,rfl,rfl,trivial⟩
 rintro j _ _ _ ⟨hj,rfl,rfl,hjy,heq,rfl⟩ hnext
 repeat (first | refine yy ?_ | refine yx fun _=> ?_)
 refine run_cond (t:=decide ((j:Int)<(xs.length:Int))&&decide ((j:Int)<(ys.length:Int))) rfl (fun h=> ?_) (fun h=> ?_)
 ·simp only [Bool.and_eq_true,decide_eq_true_eq] at h
  have hlt:j<xs.length:=by omega
  have hlt2:j<ys.length:=by omega
  obtain ⟨b1,o1,x,rfl,hx1,hc1⟩:=SlC.at_ hx hlt
  obtain ⟨b2,o2,y,rfl,hy1,hc2⟩:=SlC.at_ hy hlt2
  repeat (first | refine yy ?_ | refine dd ?_ | refine yd ?_ | refine yx fun _=> ?_)
  refine run_cond (t:=decide (x<y)) rfl (fun h1=> ?_) (fun h1=> ?_)
  ·have hne:x≠y:=by have:=of_decide_eq_true h1;omega
   repeat (first | refine yy ?_ | refine yx fun _=> ?_)
   exact run_ret hC (rs:= [.tmp 4]) rfl (resT rfl resN) (fun _ h=>h) ⟨rfl,rfl,-1,rfl,by
    constructor
    ·intro h;cases h
    ·rintro rfl;rw [hx1] at hy1;exact absurd (Option.some.inj hy1) hne⟩
  repeat (first | refine yy ?_ | refine dd ?_ | refine yd ?_ | refine yx fun _=> ?_)
  refine run_cond (t:=decide (x>y)) rfl (fun h2=> ?_) (fun h2=> ?_)
  ·have hne:x≠y:=by have:=of_decide_eq_true h2;omega
   repeat (first | refine yy ?_ | refine yx fun _=> ?_)
   exact run_ret hC (rs:= [.tmp 4]) rfl (resT rfl resN) (fun _ h=>h) ⟨rfl,rfl,1,rfl,by
    constructor
    ·intro h;cases h
    ·rintro rfl;rw [hx1] at hy1;exact absurd (Option.some.inj hy1) hne⟩
  have hxy:x=y:=by have:=of_decide_eq_false h1;have:=of_decide_eq_false h2;omega
  subst hxy
  repeat (first | refine yy ?_ | refine yx fun _=> ?_)
  exact run_sub' (hnext _ _ _ ⟨hlt,rfl,rfl,hlt2,by rw [take_snoc hx1,take_snoc hy1,heq],rfl⟩) ⟨lk_succ rfl (by omega),rfl,rfl,trivial⟩
 ·have hge:j=xs.length∨j=ys.length:=by
   rw [Bool.and_eq_false_iff] at h
   rcases h with h | h
   ·left;have:=of_decide_eq_false h;omega
   ·right;have:=of_decide_eq_false h;omega
  repeat (first | refine yy ?_ | refine yx fun _=> ?_)
  refine run_cond (t:=decide ((xs.length:Int)<(ys.length:Int))) rfl (fun h1=> ?_) (fun h1=> ?_)
  ·repeat (first | refine yy ?_ | refine yx fun _=> ?_)
   exact run_ret hC (rs:= [.tmp 4]) rfl (resT rfl resN) (fun _ h=>h) ⟨rfl,rfl,-1,rfl,by
    constructor
    ·intro h;cases h
    ·rintro rfl;have:=of_decide_eq_true h1;omega⟩
  repeat (first | refine yy ?_ | refine yx fun _=> ?_)
  refine run_cond (t:=decide ((xs.length:Int)>(ys.length:Int))) rfl (fun h2=> ?_) (fun h2=> ?_)
  ·repeat (first | refine yy ?_ | refine yx fun _=> ?_)
   exact run_ret hC (rs:= [.tmp 4]) rfl (resT rfl resN) (fun _ h=>h) ⟨rfl,rfl,1,rfl,by
    constructor
    ·intro h;cases h
    ·rintro rfl;have:=of_decide_eq_true h2;omega⟩
  have hl:xs.length=ys.length:=by have:=of_decide_eq_false h1;have:=of_decide_eq_false h2;omega
  have he:xs=ys:=by
   rw [List.take_of_length_le (by omega),List.take_of_length_le (by omega)] at heq
   exact heq
  repeat (first | refine yy ?_ | refine yx fun _=> ?_)
  exact run_ret hC (rs:= [.tmp 4]) rfl (resT rfl resN) (fun _ h=>h) ⟨rfl,rfl,0,rfl,by simp [he]⟩
theorem ixN_at {x:ByteArray} : ∀ {l:List ByteArray},ixN x l<l.length→l[ixN x l]? =some x
 | [],h=>by simp [ixN] at h
 | y::l,h=>by
   have hc:ixN x (y::l)=if x=y then 0 else ixN x l+1:=by
    rw [ixN,List.takeWhile_cons]
    by_cases e:x=y <;> simp [e,ixN]
   rw [hc] at h⊢
   by_cases e:x=y
   ·rw [if_pos e,e];rfl
   ·rw [if_neg e] at h⊢
    rw [List.getElem?_cons_succ]
    exact ixN_at (by simpa using h)
theorem roll_apart {b:List ByteArray} (hb:rollB b=true) {i j:Nat} {x y:ByteArray} (hi:b[i]? =some x) (hj:b[j]? =some y) (hl:lookL x=lookL y):i=j:=by
 rw [rollB,Bool.and_eq_true,Bool.not_eq_true',List.any_eq_false] at hb
 obtain ⟨hf,hno⟩:=hb
 have hbad: ∀z∈b,checkN z=0:=fun z hz=>by
  rw [fineB,Bool.and_eq_true,Bool.not_eq_true',List.any_eq_false] at hf
  have:=hf.2 z hz
  simpa [badN] using this
 have key: ∀ {k j:Nat} {x y:ByteArray},b[k]? =some x→b[j]? =some y→lookL x=lookL y→ ¬j<k:=fun {k j x y} hk hj hl hjk=>by
  have hm:=List.mem_of_getElem? (prs_at hk hj hjk)
  have h1:=hno _ hm
  have hx:=hbad x (List.mem_of_getElem? hk)
  have hy:=hbad y (List.mem_of_getElem? hj)
  have hs:skelB y=skelB x:=by rw [skelB,skelB,hl]
  apply h1
  rw [likeB]
  by_cases e:y=x
  ·simp [e]
  ·simp [clashB,hx,hy,e,hs]
 have h1:=key hi hj hl
 have h2:=key hj hi hl.symm
 omega
section
variable {a b:List ByteArray} (hb:rollB b=true) (hab:a.map lookL=b.map lookL)
include hb hab
end
theorem mem_tw {α:Type} {p:α→Bool} : ∀ {l:List α} {x:α},x∈l.takeWhile p→p x=true
 | [],_,h=>by cases h
 | y::l,x,h=>by
   rw [List.takeWhile_cons] at h
   split at h
   ·rename_i hy
    rcases List.mem_cons.1 h with rfl | h
    ·exact hy
    ·exact mem_tw h
   ·cases h
theorem app_list (a b:ByteArray):(a++b).data.toList=a.data.toList++b.data.toList:=by simp
theorem preB_app (p r:ByteArray):preB (p++r) p=true:=by
 unfold preB
 rw [app_list]
 exact List.isPrefixOf_iff_prefix.2 (List.prefix_append _ _)
theorem nextR_app (p r:ByteArray):nextR (p++r) p=r:=by rw [nextR,if_pos (preB_app p r),ext_right]
theorem hear_app (p r:ByteArray):hearO (p++r) p=some ((),r):=by rw [hearO,if_pos (preB_app p r),nextR_app]
def Stp (z r:ByteArray):Prop:=r=⟨#[]⟩∨ ∃b l,r.data.toList=b::l∧b∈z.data.toList
theorem Stp.nil (z:ByteArray):Stp z ⟨#[]⟩:= .inl rfl
theorem Stp.app {z p:ByteArray} (r:ByteArray) (h: ∃b l,p.data.toList=b::l∧b∈z.data.toList):Stp z (p++r):=by
 obtain ⟨b,l,h1,h2⟩:=h
 exact .inr ⟨b,l++r.data.toList,by rw [app_list,h1];rfl,h2⟩
theorem noQ_hi {z:ByteArray} (_:Signs z) (r:Int) (hr:128≤r):noQ z r=true:=by
 unfold noQ runeIxG
 rw [if_neg (by omega)]
 decide
theorem tw_app {q:Int→Bool} {l r:List UInt8} (hl: ∀b∈l,q (b.toNat:Int)=true) (hr:r= []∨ ∃b t,r=b::t∧q (b.toNat:Int)=false):twL q (l++r)=l:=by
 induction l with
 | nil=>
   rcases hr with rfl | ⟨b,t,rfl,hb⟩
   ·rfl
   ·rw [List.nil_append,twL,List.takeWhile_cons,if_neg (by rw [hb];decide)]
 | cons x l ih=>
   rw [List.cons_append,twL,List.takeWhile_cons,if_pos (hl x List.mem_cons_self)]
   exact congrArg _ (ih fun b hb=>hl b (List.mem_cons_of_mem _ hb))
theorem word_app {z w r:ByteArray} (h:Signs z) (hw: ∀b∈w.data.toList,b∉z.data.toList) (hr:Stp z r):wordO (w++r) z=(w,r):=by
 have hn:wordN (w++r) z=w.size:=by
  rw [wordN,while_no _ _ (noQ_hi h),app_list,tw_app,ba_len]
  ·intro b hb
   rw [noQ_b h,Bool.not_eq_true',List.contains_eq_mem,decide_eq_false_iff_not]
   exact hw b hb
  ·rcases hr with rfl | ⟨b,l,h1,h2⟩
   ·exact .inl rfl
   ·exact .inr ⟨b,l,h1,by rw [noQ_b h,List.contains_eq_mem,decide_eq_true h2];rfl⟩
 rw [wordO,hn,ext_left,ext_right]
theorem fst_odd: ∀(l:List Nat) (k e:Int),(fstF l k e).2=0→ ∀r∈l,oddR r=false
 | [],_,_,_,r,hr=>by cases hr
 | x::l,k,e,h,r,hr=>by
   rw [fstF] at h
   split at h
   ·cases h
   rename_i hx
   have ih: ∀r∈l,oddR r=false:=by
    split at h
    ·exact fst_odd l _ _ h
    split at h
    ·exact fst_odd l _ _ h
    ·exact fst_odd l _ _ h
   rcases List.mem_cons.1 hr with rfl | hr
   ·simpa using hx
   ·exact ih r hr
theorem name_odd {s:ByteArray} (h:checkN s=0):s≠⟨#[]⟩∧ ∀r∈runesL s,oddR r=false:=by
 unfold checkN firstN at h
 split at h
 ·cases h
 split at h
 ·cases h
 rename_i h2
 split at h
 ·rename_i h3;exact absurd h h3
 rename_i h3
 refine ⟨fun e=>h2 (.inl (by rw [e];rfl)),fst_odd _ 0 0 (by simpa using h3)⟩
theorem whF_all {q:Int→Bool} : ∀(l:List (Nat×Nat)) (e:Nat),(∀x∈l,q (x.2:Int)=true)→whF q l e=e
 | [],_,_=>rfl
 | x::l,e,h=>by rw [whF,if_pos (h x List.mem_cons_self)];exact whF_all l e fun y hy=>h y (List.mem_cons_of_mem _ hy)
theorem runes_bytes {s:ByteArray} {q:Int→Bool} (hq: ∀r:Int,128≤r→q r=true) (h: ∀r∈runesL s,q (r:Int)=true): ∀b∈s.data.toList,q (b.toNat:Int)=true:=by
 have h1:whileN s q=s.size:=whF_all _ _ fun x hx=>h x.2 (List.mem_map_of_mem hx)
 rw [while_no s q hq,twL,←ba_len] at h1
 intro b hb
 have h2:=(List.takeWhile_sublist (l:=s.data.toList) fun b=>q (b.toNat:Int)).eq_of_length h1
 rw [←h2] at hb
 exact mem_tw (p:=fun b:UInt8=>q (b.toNat:Int)) hb
theorem name_sign {s:ByteArray} (h:checkN s=0): ∀b∈s.data.toList,b∉sgOrg.data.toList:=by
 have:=runes_bytes (noQ_hi sgOrg_ok) (s:=s) fun r hr=>by
  have ho:=(name_odd h).2 r hr
  by_cases h128:128≤(r:Int)
  ·exact noQ_hi sgOrg_ok _ h128
  ·have hb:(r:Int)=(((r.toUInt8).toNat:Nat):Int):=by
    rw [Nat.toUInt8_eq,UInt8.toNat_ofNat'];omega
   rw [hb,noQ_b sgOrg_ok,Bool.not_eq_true',List.contains_eq_mem,decide_eq_false_iff_not]
   intro hm
   have hm2:r.toUInt8=32∨r.toUInt8=58∨r.toUInt8=59∨r.toUInt8=47∨r.toUInt8=43:=by simpa [sgOrg] using hm
   have hr2:r=32∨r=58∨r=59∨r=47∨r=43:=by
    rcases hm2 with e | e | e | e | e <;> (have:=congrArg UInt8.toNat e;rw [Nat.toUInt8_eq,UInt8.toNat_ofNat'] at this;simp at this;omega)
   rcases hr2 with rfl | rfl | rfl | rfl | rfl <;> exact absurd ho (by decide)
 intro b hb hm
 have:=this b hb
 rw [noQ_b sgOrg_ok,Bool.not_eq_true',List.contains_eq_mem,decide_eq_false_iff_not] at this
 exact this hm
theorem roll_name {names:List ByteArray} (h:rollB names=true): ∀z∈names,checkN z=0:=fun z hz=>by
 rw [rollB,Bool.and_eq_true,fineB,Bool.and_eq_true,Bool.not_eq_true',List.any_eq_false] at h
 simpa [badN] using h.1.2 z hz
theorem org_app {names:List ByteArray} (hn:rollB names=true) {k:Nat} {o r:ByteArray} (hk:orgV names k=some o) (hr:Stp sgOrg r):orgO names (o++r)=some (k,r):=by
 have hm:=List.mem_of_getElem? hk
 have hc:=roll_name hn o hm
 rw [orgO,word_app sgOrg_ok (name_sign hc) hr]
 have hlt:ixN o names<names.length:=by
  rw [ixN]
  refine Nat.lt_of_le_of_ne (List.takeWhile_sublist _).length_le fun e=> ?_
  have h2:=(List.takeWhile_sublist (l:=names) fun y=>decide (o≠y)).eq_of_length e
  rw [←h2] at hm
  have:=mem_tw (p:=fun y=>decide (o≠y)) hm
  simp at this
 rw [if_pos hlt,roll_apart hn (ixN_at hlt) hk rfl]
theorem dec_digit: ∀(n:Nat) (b:UInt8),b∈decDigits n→48≤b.toNat∧b.toNat≤57:=by
 intro n
 induction n using Nat.strongRecOn with
 | ind n ih=>
   intro b hb
   have hone: ∀u,u<10→b=UInt8.ofNat (48+u)→48≤b.toNat∧b.toNat≤57:=fun u hu e=>by
    rw [e,UInt8.toNat_ofNat'];omega
   rw [decDigits] at hb
   split at hb
   ·exact hone n (by assumption) (List.mem_singleton.1 hb)
   ·rcases List.mem_append.1 hb with hb | hb
    ·exact ih (n/10) (by omega) b hb
    ·exact hone (n%10) (by omega) (List.mem_singleton.1 hb)
theorem dec_ne (n:Nat):decDigits n≠ []:=by
 rw [decDigits]
 split
 ·simp
 ·simp
theorem decFrom_app: ∀(l r:List UInt8) (a:Nat),decFrom a (l++r)=(decFrom a l).bind fun x=>decFrom x r
 | [],r,a=>rfl
 | b::l,r,a=>by
   rw [List.cons_append,decFrom,decFrom]
   cases digitVal b with
   | none=>rfl
   | some d=>exact decFrom_app l r _
theorem digit_val: ∀u:Fin 10,digitVal (UInt8.ofNat (48+u.val))=some u.val:=by decide
theorem decFrom_dec: ∀n:Nat,decFrom 0 (decDigits n)=some n:=by
 intro n
 induction n using Nat.strongRecOn with
 | ind n ih=>
   rw [decDigits]
   split
   ·rename_i h
    rw [decFrom,digit_val ⟨n,h⟩]
    show some (0*10+n)=_
    rw [Nat.zero_mul,Nat.zero_add]
   ·rename_i h
    rw [decFrom_app,ih (n/10) (by omega),Option.bind_some,decFrom,digit_val ⟨n%10,by omega⟩]
    show some (n/10*10+n%10)=_
    congr 1;omega
theorem atoi_dec {n:Nat} (h:n<1000000000000000000):atoiAll (decDigits n)= .ok (n:Int):=by
 rw [atoiAll_short _ (dec_le 17 n (by omega))]
 have hdn:decNat (decDigits n)=some n:=by
  rw [decNat,if_neg (by simp [dec_ne]),decFrom_dec]
 have hat:atoi (decDigits n)=some (n:Int):=by
  cases hl:decDigits n with
  | nil=>exact absurd hl (dec_ne n)
  | cons b r=>
    have hb:=dec_digit n b (by rw [hl];exact List.mem_cons_self)
    have h45:(b==45)=false:=by
     rw [beq_eq_false_iff_ne];rintro rfl;exact absurd hb.1 (by decide)
    have h43:(b==43)=false:=by
     rw [beq_eq_false_iff_ne];rintro rfl;exact absurd hb.1 (by decide)
    rw [atoi,h45,h43,if_neg (by decide),if_neg (by decide),←hl,hdn]
    rfl
 rw [hat]
 rfl
theorem num_app {most:Nat} {n:Int} {r:ByteArray} (_:0≤n) (h1:n≤(most:Int)) (hm:most<1000000000000000000) (hr:Stp sgNum r):numO most (dgB n++r)=some (n.toNat,r):=by
 have hw:wordO (dgB n++r) sgNum=(dgB n,r):=by
  refine word_app sgNum_ok (fun b hb hs=> ?_) hr
  have hd:=dec_digit n.toNat b hb
  have:b=32∨b=47∨b=43:=by simpa [sgNum] using hs
  rcases this with rfl | rfl | rfl <;> exact absurd hd.1 (by decide)
 have ha:atoiAll (dgB n).data.toList= .ok (n.toNat:Int):=atoi_dec (by omega)
 have hl:numL most (dgB n)=some n.toNat:=by
  rw [numL,ha]
  exact if_pos ⟨by omega,by omega,by rw [Int.toNat_natCast];rfl⟩
 rw [numO,hw,hl]
 rfl
section
variable {n b0 b1 b2 b3:Nat}
theorem dec2 (k0: ¬b0<128) (h:b0/32=6∧(1<n∧b1/64=2)):decodeN n b0 b1 b2 b3=(if b0%32*64+b1%64≥128 then (b0%32*64+b1%64,2)else (65533,1)):=by
 unfold decodeN;rw [if_neg k0,if_pos h]
theorem dec3 (k0: ¬b0<128) (k1: ¬(b0/32=6∧(1<n∧b1/64=2))) (h:b0/16=14∧(1<n∧b1/64=2)∧(2<n∧b2/64=2)): ∃x,decodeN n b0 b1 b2 b3=x∧x.2≤3∧ ∀n' c3,(b0/16=14∧(1<n'∧b1/64=2)∧(2<n'∧b2/64=2))→ ¬(b0/32=6∧(1<n'∧b1/64=2))→decodeN n' b0 b1 b2 c3=x:=by
 unfold decodeN
 rw [if_neg k0,if_neg k1,if_pos h]
 refine ⟨_,rfl,by split <;> simp,fun n' c3 h' k'=> ?_⟩
 rw [if_neg k0,if_neg k',if_pos h']
theorem dec4 (k0: ¬b0<128) (k1: ¬(b0/32=6∧(1<n∧b1/64=2))) (k2: ¬(b0/16=14∧(1<n∧b1/64=2)∧(2<n∧b2/64=2))) (h:b0/8=30∧(1<n∧b1/64=2)∧(2<n∧b2/64=2)∧(3<n∧b3/64=2)): ∃x,decodeN n b0 b1 b2 b3=x∧x.2≤4∧ ∀n',(b0/8=30∧(1<n'∧b1/64=2)∧(2<n'∧b2/64=2)∧(3<n'∧b3/64=2))→ ¬(b0/32=6∧(1<n'∧b1/64=2))→ ¬(b0/16=14∧(1<n'∧b1/64=2)∧(2<n'∧b2/64=2))→decodeN n' b0 b1 b2 b3=x:=by
 unfold decodeN
 rw [if_neg k0,if_neg k1,if_neg k2,if_pos h]
 refine ⟨_,rfl,by split <;> simp,fun n' h' k1' k2'=> ?_⟩
 rw [if_neg k0,if_neg k1',if_neg k2',if_pos h']
theorem decX (k0: ¬b0<128) (k1: ¬(b0/32=6∧(1<n∧b1/64=2))) (k2: ¬(b0/16=14∧(1<n∧b1/64=2)∧(2<n∧b2/64=2))) (k3: ¬(b0/8=30∧(1<n∧b1/64=2)∧(2<n∧b2/64=2)∧(3<n∧b3/64=2))):decodeN n b0 b1 b2 b3=(65533,1):=by
 unfold decodeN;rw [if_neg k0,if_neg k1,if_neg k2,if_neg k3]
theorem decodeN_more {n' c1 c2 c3:Nat} (h:(decodeN n b0 b1 b2 b3).1≠65533) (h0:1≤n) (hn:n≤n') (h1:1<n→c1=b1) (h2:2<n→c2=b2) (h3:3<n→c3=b3):
 decodeN n' b0 c1 c2 c3=decodeN n b0 b1 b2 b3∧(decodeN n b0 b1 b2 b3).2≤n:=by
 by_cases k0:b0<128
 ·unfold decodeN;rw [if_pos k0,if_pos k0];exact ⟨rfl,h0⟩
 by_cases k1:b0/32=6∧(1<n∧b1/64=2)
 ·obtain rfl:=h1 k1.2.1
  rw [dec2 k0 k1,dec2 k0 ⟨k1.1,by omega,k1.2.2⟩]
  exact ⟨rfl,by split <;> simp <;> omega⟩
 by_cases k2:b0/16=14∧(1<n∧b1/64=2)∧(2<n∧b2/64=2)
 ·obtain rfl:=h1 k2.2.1.1
  obtain rfl:=h2 k2.2.2.1
  obtain ⟨x,e1,e2,e3⟩:=dec3 (b3:=b3) k0 k1 k2
  rw [e1]
  exact ⟨e3 n' c3 ⟨k2.1,⟨by omega,k2.2.1.2⟩,by omega,k2.2.2.2⟩ (fun e=>by omega),by omega⟩
 by_cases k3:b0/8=30∧(1<n∧b1/64=2)∧(2<n∧b2/64=2)∧(3<n∧b3/64=2)
 ·obtain rfl:=h1 k3.2.1.1
  obtain rfl:=h2 k3.2.2.1.1
  obtain rfl:=h3 k3.2.2.2.1
  obtain ⟨x,e1,e2,e3⟩:=dec4 k0 k1 k2 k3
  rw [e1]
  exact ⟨e3 n' ⟨k3.1,⟨by omega,k3.2.1.2⟩,⟨by omega,k3.2.2.1.2⟩,by omega,k3.2.2.2.2⟩ (fun e=>by omega) (fun e=>by omega),by omega⟩
 ·rw [decX k0 k1 k2 k3] at h
  exact absurd rfl h
end
theorem get_app {x y:ByteArray} {p:Nat} (h:p<x.size):(x++y).get! p=x.get! p:=by
 show (x++y).data[p]! =x.data[p]!
 have h1:p<x.data.size:=h
 have h2:p<(x++y).data.size:=by have:=app_size x y;show p<(x++y).size;omega
 rw [getElem!_pos (x++y).data p h2,getElem!_pos x.data p h1]
 have:(x++y).data.toList[p]? =x.data.toList[p]? :=by rw [app_list,List.getElem?_append_left (by simpa using h1)]
 have e1:(x++y).data.toList[p]? =some (x++y).data[p]:=by rw [Array.getElem?_toList,getElem?_pos (x++y).data p h2]
 have e2:x.data.toList[p]? =some x.data[p]:=by rw [Array.getElem?_toList,getElem?_pos x.data p h1]
 rw [e1,e2] at this
 exact Option.some.inj this
theorem decode_app {x y:ByteArray} {p:Nat} (h:p<x.size) (hv:(Utf8.decode x p).1≠65533):Utf8.decode (x++y) p=Utf8.decode x p∧p+(Utf8.decode x p).2≤x.size:=by
 rw [decode_at] at hv
 rw [decode_at,decode_at,get_app h]
 have hs:=app_size x y
 obtain ⟨h1,h2⟩:=decodeN_more (n':=(x++y).size-p) (c1:=((x++y).get! (p+1)).toNat) (c2:=((x++y).get! (p+2)).toNat) (c3:=((x++y).get! (p+3)).toNat) hv (by omega) (by omega) (fun k=>by rw [get_app (by omega)]) (fun k=>by rw [get_app (by omega)]) (fun k=>by rw [get_app (by omega)])
 exact ⟨h1,by omega⟩
theorem while_app {q:Int→Bool} (hq:q 65533=false) {x y:ByteArray} (hx:whileN x q=x.size) (hy:x.size<(x++y).size→q ((Utf8.decode (x++y) x.size).1:Int)=false):whileN (x++y) q=x.size:=by
 have hs:=app_size x y
 have key: ∀k p,p≤x.size→x.size-p≤k→whF q (rsF x p) x.size=x.size→whF q (rsF (x++y) p) (x++y).size=x.size:=by
  intro k
  induction k with
  | zero=>
    intro p h1 h2 _
    obtain rfl:p=x.size:=by omega
    by_cases h:x.size<(x++y).size
    ·rw [rsF_lt h,whF,if_neg (by rw [hy h];decide)]
    ·rw [rsF_ge h,whF];omega
  | succ k ih=>
    intro p h1 h2 h3
    by_cases hp:p<x.size
    ·rw [rsF_lt hp,whF] at h3
     by_cases hc:q ((Utf8.decode x p).1:Int)=true
     ·rw [if_pos hc] at h3
      have hv:(Utf8.decode x p).1≠65533:=fun e=>by
       rw [e] at hc
       have:q ((65533:Nat):Int)=false:=hq
       rw [this] at hc;cases hc
      obtain ⟨h4,h5⟩:=decode_app (y:=y) hp hv
      have hw:=decode_wide x hp
      rw [rsF_lt (show p<(x++y).size by omega),whF,h4,if_pos hc]
      exact ih _ h5 (by omega) h3
     ·rw [if_neg hc] at h3;omega
    ·obtain rfl:p=x.size:=by omega
     by_cases h:x.size<(x++y).size
     ·rw [rsF_lt h,whF,if_neg (by rw [hy h];decide)]
     ·rw [rsF_ge h,whF];omega
 exact key x.size 0 (Nat.zero_le _) (by omega) hx
def Rst (r:ByteArray):Prop:=Stp ⟨#[32,59,44,41,93]⟩ r
theorem Rst.out {r:ByteArray} (h:Rst r) {q:Int→Bool} (h1:q 32=false) (h2:q 59=false) (h3:q 44=false) (h4:q 41=false) (h5:q 93=false):r.data.toList= []∨ ∃b t,r.data.toList=b::t∧q (b.toNat:Int)=false:=by
 rcases h with rfl | ⟨b,l,e1,e2⟩
 ·exact .inl rfl
 ·refine .inr ⟨b,l,e1, ?_⟩
  have:b=32∨b=59∨b=44∨b=41∨b=93:=by simpa using e2
  rcases this with rfl | rfl | rfl | rfl | rfl
  ·exact h1
  ·exact h2
  ·exact h3
  ·exact h4
  ·exact h5
theorem pre_head {s p:ByteArray} {b c:UInt8} {l m:List UInt8} (hs:s.data.toList=b::l) (hp:p.data.toList=c::m) (h:b≠c):preB s p=false:=by
 rw [preB,hs,hp]
 show List.isPrefixOf (c::m) (b::l)=false
 rw [List.isPrefixOf]
 simp [Ne.symm h]
theorem prx {s:ByteArray} {b:UInt8} {l:List UInt8} (hs:s.data.toList=b::l) (c:UInt8) (h:b≠c):preB s ⟨#[c]⟩=false:=pre_head hs rfl h
theorem unhex_hex: ∀l:List UInt8,unhex (hexL l)=l
 | []=>rfl
 | b::l=>by
   have key: ∀n:Fin 256,(hvN (hexD (n.val.toUInt8.toNat/16))*16+hvN (hexD (n.val.toUInt8.toNat%16))).toUInt8=n.val.toUInt8:=by decide+kernel
   have:=key ⟨b.toNat,b.toNat_lt⟩
   simp only [Nat.toUInt8_eq,UInt8.ofNat_toNat] at this
   rw [hexL,unhex,unhex_hex l]
   simp only [Nat.toUInt8_eq]
   rw [this]
theorem hex_is: ∀l:List UInt8,∀b∈hexL l,hexQ (b.toNat:Int)=true
 | [],_,h=>by cases h
 | x::l,b,h=>by
   have key: ∀n:Fin 16,hexQ (((hexD n.val).toNat:Nat):Int)=true:=by decide+kernel
   rw [hexL,List.mem_cons,List.mem_cons] at h
   rcases h with rfl | rfl | h
   ·exact key ⟨x.toNat/16,by have:=x.toNat_lt;omega⟩
   ·exact key ⟨x.toNat%16,by omega⟩
   ·exact hex_is l b h
theorem bytes_back {x r:ByteArray} (hx:plainB x=false) (hr:Rst r):bytesR (bs (hexL x.data.toList)++r)=some (x,r):=by
 have hw:whileN (bs (hexL x.data.toList)++r) hexQ=(bs (hexL x.data.toList)).size:=by
  rw [while_tw _ _ hexQ_lt,app_list,tw_app,ba_len]
  ·exact hex_is _
  ·exact hr.out rfl rfl rfl rfl rfl
 have hl:(bs (hexL x.data.toList)).size=2*x.size:=by
  have h1:=hexL_len x.data.toList
  rw [ba_len] at h1
  exact h1
 rw [bytesR,hw,if_pos (by omega),ext_left,ext_right]
 show (if plainB (bs (unhex (hexL x.data.toList)))=true then none else _)=_
 rw [unhex_hex,show bs x.data.toList=x from rfl,if_neg (by rw [hx];decide)]
theorem quote_back {x r:ByteArray} (hx:plainB x=true) (h:x.size≤1024):quO (x++(⟨#[34]⟩++r))=some ((⟨#[100]⟩:ByteArray)++textB x,r):=by
 have hw:whileN (x++(⟨#[34]⟩++r)) plainR=x.size:=by
  refine while_app (by decide) (by simpa [plainB] using hx) fun hlt=> ?_
  have hb:(x++((⟨#[34]⟩:ByteArray)++r))[x.size]? =some 34:=by
   rw [ba_get,app_list,app_list,List.getElem?_append_right (by rw [ba_len];exact Nat.le_refl _),ba_len,Nat.sub_self]
   rfl
  have hg:(x++((⟨#[34]⟩:ByteArray)++r))[x.size]'hlt=34:=by
   rw [getElem?_pos (x++((⟨#[34]⟩:ByteArray)++r)) x.size hlt] at hb;exact Option.some.inj hb
  rw [decode_ascii _ _ hlt (by rw [hg];decide),hg]
  decide
 rw [quO,hw,ext_left,ext_right,if_pos (preB_app _ _),nextR_app,dataE,if_neg (by omega)]
 rfl
theorem data_back {x r:ByteArray} (h:x.size≤1024) (hr:Rst r) (f:Nat):pT (f+1) (datumB x++r)=some ((⟨#[100]⟩:ByteArray)++textB x,r):=by
 by_cases hp:plainB x=true
 ·have e:datumB x++r=(⟨#[34]⟩:ByteArray)++(x++(⟨#[34]⟩++r)):=by rw [datumB,if_pos hp];simp only [app_assoc]
  have hd:(datumB x++r).data.toList=34::(x++((⟨#[34]⟩:ByteArray)++r)).data.toList:=by rw [e,app_list];rfl
  rw [pT,if_neg (by rw [prx hd 36 (by decide)];decide),if_neg (by rw [prx hd 120 (by decide)];decide),e,if_pos (preB_app _ _),nextR_app,quote_back hp h]
 ·have hp:plainB x=false:=by simpa using hp
  have e:datumB x++r=(⟨#[120]⟩:ByteArray)++(bs (hexL x.data.toList)++r):=by
   rw [datumB,if_neg (by rw [hp];decide)]
   apply ba_ext
   simp only [app_list]
   rfl
  have hd:(datumB x++r).data.toList=120::(bs (hexL x.data.toList)++r).data.toList:=by rw [e,app_list];rfl
  rw [pT,if_neg (by rw [prx hd 36 (by decide)];decide),e,if_pos (preB_app _ _),nextR_app,bytes_back hp hr,Option.bind_some,dataE,if_neg (by show ¬1024<x.size;omega)]
  rfl
theorem atom_abc: ∀n:Fin 128,inAbc ((n.val:Nat):Int)=true→atomQ ((n.val:Nat):Int)=true:=by decide+kernel
theorem named_atom {s:ByteArray} : ∀f p,s.size<p+f→namedAt s f p=true→ ∀i,p≤i→ ∀b,s[i]? =some b→atomQ (b.toNat:Int)=true
 | 0,p,hf,_,i,hi,b,hb=>by
   by_cases h:i<s.size
   ·omega
   ·rw [getElem?_neg s i h] at hb;cases hb
 | f+1,p,hf,h,i,hi,b,hb=>by
   have his:i<s.size:=by
    apply Classical.byContradiction;intro h;rw [getElem?_neg s i h] at hb;cases hb
   have hp:p<s.size:=by omega
   rw [namedAt,if_pos hp,Bool.and_eq_true] at h
   have hlow:(s[p]'hp).toNat<128:=by
    apply Classical.byContradiction
    intro hn
    have:=(decode_high s p hp (by omega)).1
    have h1:=h.1
    rw [inAbc,decide_eq_true_eq,runeIx,if_neg (by omega)] at h1
    omega
   rw [decode_ascii s p hp hlow] at h
   by_cases e:i=p
   ·subst e
    rw [getElem?_pos s i hp] at hb
    cases hb
    exact atom_abc ⟨_,hlow⟩ h.1
   ·exact named_atom f (p+1) (by omega) h.2 i (by omega) b hb
theorem atomQ_lt (r:Int) (h:atomQ r=true):r<128:=by
 simp only [atomQ,Bool.or_eq_true,Bool.and_eq_true,decide_eq_true_eq,beq_iff_eq] at h
 omega
theorem atom_back {x r:ByteArray} (h:x.size≤32) (hn:namedR x=true) (hr:Rst r) (f:Nat):pT (f+1) (((⟨#[36]⟩:ByteArray)++x)++r)=some ((⟨#[97]⟩:ByteArray)++textB x,r):=by
 have hall: ∀b∈x.data.toList,atomQ (b.toNat:Int)=true:=fun b hb=>by
  obtain ⟨i,hi⟩:=List.getElem?_of_mem hb
  have hn1:=hn
  rw [namedR,Bool.and_eq_true] at hn1
  exact named_atom _ 0 (by omega) hn1.1 i (Nat.zero_le _) b (by rw [ba_get];exact hi)
 have hw:whileN (x++r) atomQ=x.size:=by
  rw [while_tw _ _ atomQ_lt,app_list,tw_app hall (hr.out rfl rfl rfl rfl rfl),ba_len]
 rw [pT,app_assoc,if_pos (preB_app _ _),nextR_app,atO,hw,ext_left,ext_right,atomE,if_neg (by omega),if_pos hn]
 rfl
theorem seq_rst {c:UInt8} (hc:c=93∨c=41) (l:List ByteArray) (r:ByteArray):Rst (seqC sepB false l++((⟨#[c]⟩:ByteArray)++r)):=by
 cases l with
 | nil=>
   rw [seqC,nil_app]
   refine Stp.app r ⟨c,[],rfl, ?_⟩
   rcases hc with rfl | rfl <;> decide
 | cons x l=>
   rw [seqC,if_neg (by decide),app_assoc,app_assoc]
   exact Stp.app _ ⟨44,[32],rfl,by decide⟩
theorem parts_back {T:RT} {f:ByteArray→ByteArray} {c:UInt8} (hc:c=93∨c=41): ∀(ps:List ByteArray) (n:Nat) (first:Bool) (r:ByteArray),ps.length≤n→(∀p∈ps,∀r,Rst r→T (f p++r)=some (p,r))→(∀p∈ps,∃b l,(f p).data.toList=b::l∧b≠93∧b≠41)→
 pP T ⟨#[c]⟩ n first (seqC sepB first (ps.map f)++((⟨#[c]⟩:ByteArray)++r))=some (ps,r)
 | [],n,first,r,_,_,_=>by
   rw [List.map_nil,seqC,nil_app,pP_end (preB_app _ _),nextR_app]
 | p::l,0,_,_,h,_,_=>by simp at h
 | p::l,n+1,first,r,hn,hT,hh=>by
   have ih:=parts_back hc l n false r (by simpa using hn) (fun q hq=>hT q (List.mem_cons_of_mem _ hq)) (fun q hq=>hh q (List.mem_cons_of_mem _ hq))
   have hr:=seq_rst hc (l.map f) r
   have hTp:=hT p List.mem_cons_self _ hr
   obtain ⟨b,m,hb,hb1,hb2⟩:=hh p List.mem_cons_self
   have hbc:b≠c:=by rcases hc with rfl | rfl <;> assumption
   generalize hrest:seqC sepB false (l.map f)++((⟨#[c]⟩:ByteArray)++r)=rest at*
   rw [List.map_cons,seqC,app_assoc,hrest,pP]
   cases first with
   | true=>
     rw [if_pos rfl,if_neg (by rw [prx (l:=m++rest.data.toList) (by rw [app_list,hb];rfl) c hbc];decide),if_pos rfl,hTp,Option.bind_some,ih]
     rfl
   | false=>
     have hsc:(44:UInt8)≠c:=by rcases hc with rfl | rfl <;> decide
     rw [show (if (false=true)then f p else sepB++f p)=sepB++f p from rfl,app_assoc,if_neg (by rw [prx (b:=44) (l:=32::(f p++rest).data.toList) (by rw [app_list];rfl) c hsc];decide),if_neg (by decide),if_pos (preB_app _ _),nextR_app,hTp,Option.bind_some,ih]
     rfl
theorem kind_of {k:Nat} {t:ByteArray} (hk:k≤16) (hT:Tm k t) (hz:t.size≤16384):mayB t=true∧kindN t=kindB (byte t 0):=by
 have h:=(mayB_iff (t:=t) (by omega)).2 ⟨hT.mono hk,hz⟩
 exact ⟨h,by rw [kindN,if_pos h]⟩
theorem text_of {c:Int} (hc:c=100∨c=97) {x:ByteArray} (hx:x.size≤1024) (h:mayB (bytesI [c]++textB x)=true):(textN (bytesI [c]++textB x)).1=x:=by
 have hb:byte (bytesI [c]++textB x) 0=c:=byte0_one (by omega) (by omega) _
 rw [textN,if_pos ⟨h,by rw [hb];exact hc⟩,rest1_one]
 have:=text_read hx (by decide) ⟨#[]⟩
 rw [app_nil] at this
 rw [this]
theorem made_back {k:Nat} (hk:k≤16) {hd:ByteArray} {ps:List ByteArray} (hT:Tm k (hd++cat ps)) (hps: ∀p∈ps,Tm (k-1) p) (hz:(hd++cat ps).size≤16384) (r:ByteArray):hadO (madeE hd ps) r=some (hd++cat ps,r):=by
 have h1:ps.all mayB=true:=List.all_eq_true.2 fun p hp=>by
  have hpz:=cat_mem hp
  rw [app_size] at hz
  exact (mayB_iff (by omega)).2 ⟨(hps p hp).mono (by omega),by omega⟩
 rw [madeE,if_pos h1,if_pos (kind_of hk hT hz).1]
 rfl
def LnB (k:Nat) (t:ByteArray):Prop:=(∀r,Rst r→pT k (lineB k t++r)=some (t,r))∧ ∃b l,(lineB k t).data.toList=b::l∧b≠93∧b≠41
theorem len2 {α:Type} : ∀ {l:List α},l.length=2→ ∃a b,l= [a,b]
 | [a,b],_=>⟨a,b,rfl⟩
theorem len3 {α:Type} : ∀ {l:List α},l.length=3→ ∃a b c,l= [a,b,c]
 | [a,b,c],_=>⟨a,b,c,rfl⟩
theorem tri_back (k:Nat) (ps:List ByteArray) {pl:Nat} (hpl:ps.length=pl) (c:Int) (hkd:kindN (bytesI [c]++cat ps)=kindB (byte (bytesI [c]++cat ps) 0)) (hparts:partsL (bytesI [c]++cat ps)=ps) (hpT: ∀p∈ps,∀r,Rst r→pT k (lineB k p++r)=some (p,r)) (hpH: ∀p∈ps,∃b l,(lineB k p).data.toList=b::l∧b≠93∧b≠41)
 (hmade: ∀r,hadO (madeE (bytesI [c]) ps) r=some (bytesI [c]++cat ps,r)) (hsz:(bytesI [c]).size=1) (hc:(c=104∧pl=1)∨(c=109∧pl=2)∨(c=115∧pl=3)):LnB (k+1) (bytesI [c]++cat ps):=by
 have hb:byte (bytesI [c]++cat ps) 0=c:=byte0_one (by omega) (by omega) _
 have hx:(bytesI [c]++cat ps).extract 0 1=bytesI [c]:=by have:=ext_left (bytesI [c]) (cat ps);rw [hsz] at this;exact this
 have hl:lineB (k+1) (bytesI [c]++cat ps)=((bytesI [c]++⟨#[40]⟩)++seqC sepB true (ps.map (lineB k)))++⟨#[41]⟩:=by
  rw [lineB,hkd,hb,hx,hparts]
  rcases hc with ⟨rfl,_⟩ | ⟨rfl,_⟩ | ⟨rfl,_⟩ <;> rfl
 obtain ⟨u,hu,hu1⟩: ∃u:UInt8,(bytesI [c]).data.toList= [u]∧(u≠36∧u≠120∧u≠34∧u≠91∧u≠93∧u≠41):=by
  rcases hc with ⟨rfl,_⟩ | ⟨rfl,_⟩ | ⟨rfl,_⟩
  ·exact ⟨104,rfl,by decide⟩
  ·exact ⟨109,rfl,by decide⟩
  ·exact ⟨115,rfl,by decide⟩
 refine ⟨fun r hr=> ?_,u,_,by rw [hl,app_list,app_list,app_list,hu];rfl,hu1.2.2.2.2.1,hu1.2.2.2.2.2⟩
 have hs:(lineB (k+1) (bytesI [c]++cat ps)++r)=bytesI [c]++((⟨#[40]⟩:ByteArray)++(seqC sepB true (ps.map (lineB k))++((⟨#[41]⟩:ByteArray)++r))):=by rw [hl];simp only [app_assoc]
 rw [hs]
 generalize hrest:(⟨#[40]⟩:ByteArray)++(seqC sepB true (ps.map (lineB k))++((⟨#[41]⟩:ByteArray)++r))=rest
 have hhd: ∀d:UInt8,u≠d→preB (bytesI [c]++rest) ⟨#[d]⟩=false:=fun d hd=>prx (l:=rest.data.toList) (by rw [app_list,hu];rfl) d hd
 have e1:(bytesI [c]++rest).extract 1 (bytesI [c]++rest).size=rest:=by have:=ext_right (bytesI [c]) rest;rw [hsz] at this;exact this
 have e2:(bytesI [c]++rest).extract 0 1=bytesI [c]:=by have:=ext_left (bytesI [c]) rest;rw [hsz] at this;exact this
 have hz1: ¬(bytesI [c]++rest).size<1:=by rw [app_size,hsz];omega
 rw [pT,if_neg (by rw [hhd 36 hu1.1];decide),if_neg (by rw [hhd 120 hu1.2.1];decide),if_neg (by rw [hhd 34 hu1.2.2.1];decide),if_neg (by rw [hhd 91 hu1.2.2.2.1];decide),if_neg hz1,e1,e2,←hrest,if_pos (preB_app _ _),nextR_app,
   parts_back (.inr rfl) ps 32 true r (by omega) hpT hpH,Option.bind_some]
 have hm:=hmade r
 rcases hc with ⟨rfl,rfl⟩ | ⟨rfl,rfl⟩ | ⟨rfl,rfl⟩
 ·obtain ⟨a,rfl⟩:=List.length_eq_one_iff.1 hpl
  rw [kindO,if_pos (show bytesI [104]=⟨#[104]⟩from rfl),show (⟨#[104]⟩:ByteArray)=bytesI [104] from rfl];exact hm
 ·obtain ⟨a,b,rfl⟩:=len2 hpl
  rw [kindO,if_pos (show bytesI [109]=⟨#[109]⟩from rfl),show (⟨#[109]⟩:ByteArray)=bytesI [109] from rfl];exact hm
 ·obtain ⟨a,b,d,rfl⟩:=len3 hpl
  rw [kindO,if_pos (show bytesI [115]=⟨#[115]⟩from rfl),show (⟨#[115]⟩:ByteArray)=bytesI [115] from rfl];exact hm
theorem line_back: ∀(k:Nat),k≤16→ ∀t,Tm k t→t.size≤16384→LnB k t
 | 0,_,_,h,_=>h.elim
 | k+1,hk,t,hT,hz=>by
   obtain ⟨hmay,hkd⟩:=kind_of hk hT hz
   have hT0:=hT
   obtain ⟨hd,ps,h1,rfl,h3⟩:=hT
   have hih: ∀p∈ps,LnB k p:=fun p hp=>line_back k (by omega) p (h3 p hp) (by have:=cat_mem hp;rw [app_size] at hz;omega)
   have hpT: ∀p∈ps,∀r,Rst r→pT k (lineB k p++r)=some (p,r):=fun p hp=>(hih p hp).1
   have hpH: ∀p∈ps,∃b l,(lineB k p).data.toList=b::l∧b≠93∧b≠41:=fun p hp=>(hih p hp).2
   have hmade:=made_back hk hT0 (by simpa using h3) hz
   have hparts:partsL (hd++cat ps)=ps:=parts_of (k:=k) (by omega) h1 h3 (by omega)
   generalize hpl:ps.length=pl at h1
   cases h1 with
   | data hx=>
     rename_i x
     obtain rfl:=List.length_eq_zero_iff.1 hpl
     have e0:(bytesI [100]++textB x)++cat []=bytesI [100]++textB x:=app_nil _
     rw [e0] at hmay hkd⊢
     have hb:byte (bytesI [100]++textB x) 0=100:=byte0_one (by decide) (by decide) _
     have hl:lineB (k+1) (bytesI [100]++textB x)=datumB x:=by rw [lineB,hkd,hb,if_pos (by decide),text_of (.inl rfl) hx hmay]
     refine ⟨fun r hr=>by rw [hl];exact data_back hx hr k, ?_⟩
     rw [hl,datumB]
     split
     ·exact ⟨34,_,by rw [app_list,app_list];rfl,by decide,by decide⟩
     ·exact ⟨120,_,rfl,by decide,by decide⟩
   | atom hx hn=>
     rename_i x
     obtain rfl:=List.length_eq_zero_iff.1 hpl
     have e0:(bytesI [97]++textB x)++cat []=bytesI [97]++textB x:=app_nil _
     rw [e0] at hmay hkd⊢
     have hb:byte (bytesI [97]++textB x) 0=97:=byte0_one (by decide) (by decide) _
     have hl:lineB (k+1) (bytesI [97]++textB x)=(⟨#[36]⟩:ByteArray)++x:=by rw [lineB,hkd,hb,if_neg (by decide),if_pos (by decide),text_of (.inr rfl) (by omega) hmay]
     exact ⟨fun r hr=>by rw [hl];exact atom_back hx hn hr k,36,_,by rw [hl,app_list];rfl,by decide,by decide⟩
   | row hv=>
     subst hpl
     have hb:byte ((bytesI [114]++numB ps.length)++cat ps) 0=114:=by rw [app_assoc];exact byte0_one (by decide) (by decide) _
     have hl:lineB (k+1) ((bytesI [114]++numB ps.length)++cat ps)=((⟨#[91]⟩:ByteArray)++seqC sepB true (ps.map (lineB k)))++⟨#[93]⟩:=by
      rw [lineB,hkd,hb,if_neg (by decide),if_neg (by decide),if_pos (by decide),hparts]
     refine ⟨fun r hr=> ?_,91,_,by rw [hl,app_list,app_list];rfl,by decide,by decide⟩
     have hs:(lineB (k+1) ((bytesI [114]++numB ps.length)++cat ps)++r)=(⟨#[91]⟩:ByteArray)++(seqC sepB true (ps.map (lineB k))++((⟨#[93]⟩:ByteArray)++r)):=by rw [hl];simp only [app_assoc]
     rw [hs]
     have hhd: ∀c:UInt8,(91:UInt8)≠c→preB ((⟨#[91]⟩:ByteArray)++(seqC sepB true (ps.map (lineB k))++((⟨#[93]⟩:ByteArray)++r))) ⟨#[c]⟩=false:=fun c hc=>prx (by rw [app_list];rfl) c hc
     rw [pT,if_neg (by rw [hhd 36 (by decide)];decide),if_neg (by rw [hhd 120 (by decide)];decide),if_neg (by rw [hhd 34 (by decide)];decide),if_pos (preB_app _ _),nextR_app,parts_back (.inl rfl) ps 32 true r hv hpT hpH,Option.bind_some]
     exact hmade r
   | hash=>exact tri_back k ps hpl 104 hkd hparts hpT hpH hmade rfl (.inl ⟨rfl,rfl⟩)
   | mac=>exact tri_back k ps hpl 109 hkd hparts hpT hpH hmade rfl (.inr (.inl ⟨rfl,rfl⟩))
   | slot=>exact tri_back k ps hpl 115 hkd hparts hpT hpH hmade rfl (.inr (.inr ⟨rfl,rfl⟩))
theorem parse_back {t:ByteArray} (h:mayB t=true) (hz:t.size<4611686018427387904):parseE (lineB 16 t)=(t,0):=by
 obtain ⟨hT,hz2⟩:=(mayB_iff hz).1 h
 have:=(line_back 16 (Nat.le_refl _) t hT hz2).1 ⟨#[]⟩ (Stp.nil _)
 rw [app_nil] at this
 rw [parseE,this]
 exact if_pos rfl
def SgT (sg:List UInt8):Prop:=sg= [59,32]∨sg= [32,43,32]
def Scn (sg u:List UInt8):Prop:= ∀r,scanF sg (u++r) false=u.length+scanF sg r false
def quB (b:UInt8):Prop:=b≠34∧b≠59∧b≠32
theorem Scn.app {sg u v:List UInt8} (hu:Scn sg u) (hv:Scn sg v):Scn sg (u++v):=fun r=>by
 rw [List.append_assoc,hu,hv,List.length_append];omega
theorem pre_no {sg:List UInt8} (h:SgT sg) {b:UInt8} (hb:b≠59∧b≠32) (l:List UInt8):hasPrefix (b::l) sg=false:=by
 rcases h with rfl | rfl
 ·show List.isPrefixOf [59,32] (b::l)=false
  rw [List.isPrefixOf];simp [Ne.symm hb.1]
 ·show List.isPrefixOf [32,43,32] (b::l)=false
  rw [List.isPrefixOf];simp [Ne.symm hb.2]
theorem scn_qu {sg:List UInt8} (h:SgT sg): ∀ {u:List UInt8},(∀b∈u,quB b)→Scn sg u
 | [],_=>fun r=>by rw [List.nil_append,List.length_nil,Nat.zero_add]
 | b::u,hu=>fun r=>by
   have hb:=hu b List.mem_cons_self
   rw [List.cons_append,scanF,pre_no h hb.2,if_pos (by decide),if_neg hb.1,scn_qu h (fun c hc=>hu c (List.mem_cons_of_mem _ hc)) r,List.length_cons]
   omega
theorem scan_qd {sg:List UInt8} : ∀ {x:List UInt8},(∀b∈x,b≠34)→ ∀r,scanF sg (x++34::r) true=x.length+1+scanF sg r false
 | [],_,r=>by rw [List.nil_append,scanF,if_pos (by simp),if_pos rfl];show scanF sg r false+1=_;rw [List.length_nil];omega
 | b::x,hx,r=>by
   rw [List.cons_append,scanF,if_pos (by simp),if_neg (hx b List.mem_cons_self),scan_qd (fun c hc=>hx c (List.mem_cons_of_mem _ hc)) r,List.length_cons]
   omega
theorem scn_quote {sg:List UInt8} (h:SgT sg) {x:List UInt8} (hx: ∀b∈x,b≠34):Scn sg (34::(x++ [34])):=fun r=>by
 rw [List.cons_append,scanF,pre_no h (by decide),if_pos (by decide),if_pos rfl,List.append_assoc]
 show scanF sg (x++34::r) true+1=_
 rw [scan_qd hx r,List.length_cons,List.length_append,List.length_singleton]
 omega
theorem scn_sep {sg:List UInt8} (h:SgT sg) {v:List UInt8} (hv:Scn sg v) (hh: ∃b l,v=b::l∧b≠43):Scn sg (44::32::v):=fun r=>by
 obtain ⟨b,l,rfl,hb⟩:=hh
 have h2:hasPrefix (32::b::(l++r)) sg=false:=by
  rcases h with rfl | rfl
  ·rfl
  ·show List.isPrefixOf [32,43,32] (32::b::(l++r))=false
   rw [List.isPrefixOf,List.isPrefixOf];simp [Ne.symm hb]
 have h3:=hv r
 rw [List.cons_append] at h3
 rw [List.cons_append,List.cons_append,List.cons_append,scanF,pre_no h (by decide),if_pos (by decide),if_neg (by decide),scanF,h2,if_pos (by decide),if_neg (by decide),h3]
 simp only [List.length_cons];omega
theorem hexQ_qu: ∀n:Fin 256,hexQ ((n.val.toUInt8.toNat:Nat):Int)=true→(n.val.toUInt8≠34∧n.val.toUInt8≠59∧n.val.toUInt8≠32):=by decide+kernel
theorem atomQ_qu: ∀n:Fin 256,atomQ ((n.val.toUInt8.toNat:Nat):Int)=true→(n.val.toUInt8≠34∧n.val.toUInt8≠59∧n.val.toUInt8≠32):=by decide+kernel
theorem fin_b {p:UInt8→Prop} (h: ∀n:Fin 256,p n.val.toUInt8) (b:UInt8):p b:=by
 have:=h ⟨b.toNat,b.toNat_lt⟩
 simpa only [Nat.toUInt8_eq,UInt8.ofNat_toNat] using this
theorem plain_34 {x:ByteArray} (hx:plainB x=true): ∀b∈x.data.toList,b≠34:=by
 have hw:whileN x plainR=x.size:=by simpa [plainB] using hx
 have key: ∀k p,x.size-p≤k→whF plainR (rsF x p) x.size=x.size→ ∀y∈rsF x p,plainR (y.2:Int)=true:=by
  intro k
  induction k with
  | zero=>
    intro p h1 _ y hy
    rw [rsF_ge (by omega)] at hy;cases hy
  | succ k ih=>
    intro p h1 h2 y hy
    by_cases hp:p<x.size
    ·have hwd:=decode_wide x hp
     rw [rsF_lt hp] at hy h2
     rw [whF] at h2
     split at h2
     ·rename_i hq
      rcases List.mem_cons.1 hy with rfl | hy
      ·exact hq
      ·exact ih _ (by omega) h2 y hy
     ·exfalso;dsimp only at h2;omega
    ·rw [rsF_ge hp] at hy;cases hy
 have hall:=runes_bytes (s:=x) (q:=fun r=>decide (r≠34)) (fun r hr=>by simp;omega) (fun r hr=>by
  obtain ⟨y,hy,rfl⟩:=List.mem_map.1 hr
  have:=key x.size 0 (by omega) hw y hy
  simp only [plainR,Bool.and_eq_true] at this
  exact this.1)
 intro b hb e
 have:=hall b hb
 rw [e] at this
 exact absurd this (by decide)
theorem scn_datum {sg:List UInt8} (h:SgT sg) (x:ByteArray):Scn sg (datumB x).data.toList:=by
 unfold datumB
 split
 ·rename_i hp
  rw [app_list,app_list]
  exact scn_quote h (plain_34 hp)
 ·refine scn_qu h fun b hb=> ?_
  rcases List.mem_cons.1 hb with rfl | hb
  ·exact ⟨by decide,by decide,by decide⟩
  ·exact fin_b (p:=fun b=>hexQ (b.toNat:Int)=true→quB b) hexQ_qu b (hex_is _ b hb)
theorem seq_scn {sg:List UInt8} (h:SgT sg): ∀(l:List ByteArray) (first:Bool),(∀x∈l,Scn sg x.data.toList∧ ∃b t,x.data.toList=b::t∧b≠43)→Scn sg (seqC sepB first l).data.toList
 | [],_,_=>fun r=>by rw [seqC];show scanF sg ([]++r) false=_;rw [List.nil_append];exact (Nat.zero_add _).symm
 | x::l,first,hl=>by
   have ih:=seq_scn h l false fun y hy=>hl y (List.mem_cons_of_mem _ hy)
   obtain ⟨h1,h2⟩:=hl x List.mem_cons_self
   rw [seqC,app_list]
   refine Scn.app ?_ ih
   cases first with
   | true=>exact h1
   | false=>
     show Scn sg (sepB++x).data.toList
     rw [app_list]
     exact scn_sep h h1 h2
theorem named_all {x:ByteArray} (hn:namedR x=true): ∀b∈x.data.toList,atomQ (b.toNat:Int)=true:=fun b hb=>by
 obtain ⟨i,hi⟩:=List.getElem?_of_mem hb
 rw [namedR,Bool.and_eq_true] at hn
 exact named_atom _ 0 (by omega) hn.1 i (Nat.zero_le _) b (by rw [ba_get];exact hi)
theorem atom_all {k:Nat} (hk:k≤16) {t:ByteArray} (hT:Tm k t) (hz:t.size≤16384) (h2:kindN t=2): ∀b∈(textN t).1.data.toList,atomQ (b.toNat:Int)=true:=by
 obtain ⟨hmay,hkd⟩:=kind_of hk hT hz
 cases k with
 | zero=>exact hT.elim
 | succ k=>
   obtain ⟨hd,ps,h1,rfl,_⟩:=hT
   rw [hkd] at h2
   generalize hpl:ps.length=pl at h1
   cases h1 with
   | data hx=>
     rw [app_assoc,byte0_one (by decide) (by decide)] at h2
     exact absurd h2 (by decide)
   | atom hx hn=>
     rename_i x
     obtain rfl:=List.length_eq_zero_iff.1 hpl
     have e0:(bytesI [97]++textB x)++cat []=bytesI [97]++textB x:=app_nil _
     rw [e0] at hmay⊢
     rw [text_of (.inr rfl) (by omega) hmay]
     exact named_all hn
   | row hv=>
     rw [app_assoc,byte0_one (by decide) (by decide)] at h2
     exact absurd h2 (by decide)
   | hash=>
     rw [byte0_one (by decide) (by decide)] at h2
     exact absurd h2 (by decide)
   | mac=>
     rw [byte0_one (by decide) (by decide)] at h2
     exact absurd h2 (by decide)
   | slot=>
     rw [byte0_one (by decide) (by decide)] at h2
     exact absurd h2 (by decide)
theorem line_scn {sg:List UInt8} (hsg:SgT sg): ∀(k:Nat),k≤16→ ∀t,Tm k t→t.size≤16384→Scn sg (lineB k t).data.toList∧ ∃b l,(lineB k t).data.toList=b::l∧b≠43
 | 0,_,_,h,_=>h.elim
 | k+1,hk,t,hT,hz=>by
   obtain ⟨hmay,hkd⟩:=kind_of hk hT hz
   have hT0:=hT
   have hby:=hT0.byte
   obtain ⟨hd,ps,h1,ht,h3⟩:=hT
   have hparts:partsL t=ps:=by rw [ht];exact parts_of (k:=k) (by omega) h1 h3 (by rw [←ht];omega)
   have hih: ∀p∈ps,Scn sg (lineB k p).data.toList∧ ∃b l,(lineB k p).data.toList=b::l∧b≠43:=fun p hp=>line_scn hsg k (by omega) p (h3 p hp) (by have:=cat_mem hp;rw [ht,app_size] at hz;omega)
   have hseq: ∀f,Scn sg (seqC sepB f ((partsL t).map (lineB k))).data.toList:=fun f=>by
    rw [hparts]
    exact seq_scn hsg _ f fun x hx=>by obtain ⟨p,hp,rfl⟩:=List.mem_map.1 hx;exact hih p hp
   have hone: ∀b:UInt8,quB b→Scn sg [b]:=fun b hb=>scn_qu hsg fun c hc=>by obtain rfl:=List.mem_singleton.1 hc;exact hb
   rw [lineB]
   split
   ·refine ⟨scn_datum hsg _, ?_⟩
    unfold datumB
    split
    ·exact ⟨34,_,by rw [app_list,app_list];rfl,by decide⟩
    ·exact ⟨120,_,rfl,by decide⟩
   split
   ·rename_i h2
    refine ⟨?_,36,_,by rw [app_list];rfl,by decide⟩
    rw [app_list]
    refine Scn.app (hone 36 ⟨by decide,by decide,by decide⟩) (scn_qu hsg fun b hb=> ?_)
    exact fin_b (p:=fun b=>atomQ (b.toNat:Int)=true→quB b) atomQ_qu b (atom_all hk hT0 hz h2 b hb)
   split
   ·refine ⟨?_,91,_,by rw [app_list,app_list];rfl,by decide⟩
    rw [app_list,app_list]
    exact ((hone 91 ⟨by decide,by decide,by decide⟩).app (hseq true)).app (hone 93 ⟨by decide,by decide,by decide⟩)
   ·have he:t.extract 0 1=bytesI [byte t 0]:=ext_one (by have:=hT0.pos;omega)
    rw [he]
    rename_i k1 k2 k3
    rw [hkd] at k1 k2 k3
    have hu: ∃u:UInt8,(bytesI [byte t 0]).data.toList= [u]∧quB u∧u≠43:=by
     rcases hby with e | e | e | e | e | e
     ·rw [e] at k1;exact absurd rfl k1
     ·rw [e] at k2;exact absurd rfl k2
     ·rw [e] at k3;exact absurd rfl k3
     ·rw [e];exact ⟨104,rfl,⟨by decide,by decide,by decide⟩,by decide⟩
     ·rw [e];exact ⟨109,rfl,⟨by decide,by decide,by decide⟩,by decide⟩
     ·rw [e];exact ⟨115,rfl,⟨by decide,by decide,by decide⟩,by decide⟩
    obtain ⟨u,hu,hq,h43⟩:=hu
    refine ⟨?_,u,_,by rw [app_list,app_list,app_list,hu];rfl,h43⟩
    rw [app_list,app_list,app_list,hu]
    exact (((hone u hq).app (hone 40 ⟨by decide,by decide,by decide⟩)).app (hseq true)).app (hone 41 ⟨by decide,by decide,by decide⟩)
theorem term_app {t sg r:ByteArray} (hsg:SgT sg.data.toList) (h:mayB t=true) (hz:t.size<4611686018427387904) (hr:r=⟨#[]⟩∨ ∃r',r=sg++r'):termO ((lineE t).1++r) sg=some (t,r):=by
 obtain ⟨hT,hz2⟩:=(mayB_iff hz).1 h
 have hl:(lineE t).1=lineB 16 t:=by rw [lineE,if_pos h]
 have hs:=(line_scn hsg 16 (Nat.le_refl _) t hT hz2).1 r.data.toList
 have h0:scanF sg.data.toList r.data.toList false=0:=by
  rcases hr with rfl | ⟨r',rfl⟩
  ·rfl
  ·have hp:hasPrefix (sg++r').data.toList sg.data.toList=true:=preB_app sg r'
   cases hc:(sg++r').data.toList with
   | nil=>rfl
   | cons b l=>rw [hc] at hp;rw [scanF,hp,if_neg (by decide)]
 rw [h0,Nat.add_zero,ba_len] at hs
 rw [hl,termO,app_list,hs,ext_left,ext_right,parse_back h hz,if_pos rfl]
theorem stp_sp {z:ByteArray} (h:(32:UInt8)∈z.data.toList) (r:ByteArray):Stp z (sp1++r):=Stp.app r ⟨32,[],rfl,h⟩
def Pls (r:ByteArray):Prop:=r=⟨#[]⟩∨ ∃r',r=plusB++r'
theorem Pls.stp {z:ByteArray} (h:(32:UInt8)∈z.data.toList) {r:ByteArray} (hr:Pls r):Stp z r:=by
 rcases hr with rfl | ⟨r',rfl⟩
 ·exact Stp.nil _
 ·exact Stp.app r' ⟨32,[43,32],rfl,h⟩
theorem kW_32 (d:Int): ∀b∈(kW d).data.toList,b∉sgSp.data.toList:=by
 unfold kW
 repeat' split
 all_goals decide
theorem kd_back {d:Int} (h1:1≤d) (h9:d≤9):kdTo (kW d) 9=d:=by
 have:d=1∨d=2∨d=3∨d=4∨d=5∨d=6∨d=7∨d=8∨d=9:=by omega
 rcases this with rfl | rfl | rfl | rfl | rfl | rfl | rfl | rfl | rfl <;> decide
theorem fs_app {x:Sp} (hx:SpP x): ∀(os:List Nat) (b:Sp) {r:ByteArray},Stp sgNum r→fsO os b (fsB x os++r)=some (brF x os b,r)
 | [],b,r,_=>by rw [fsB,nil_app];rfl
 | o::os,b,r,hr=>by
   have hn:=getF_nm hx o
   have hst:Stp sgNum (fsB x os++r):=by
    cases os with
    | nil=>rw [fsB,nil_app];exact hr
    | cons p os=>rw [fsB,app_assoc,app_assoc];exact stp_sp (by decide) _
   rw [fsB,app_assoc,app_assoc,fsO,hear_app,Option.bind_some,num_app hn.1 (by exact hn.2) (by decide) hst,Option.bind_some]
   show fsO os (setF b o ((getF x o).toNat:Int)) _=_
   rw [Int.toNat_of_nonneg hn.1,fs_app hx os _ hr,brF]
theorem row_app: ∀(l:List Int) (k:Nat) {r:ByteArray},(∀v∈l,nmW v=true)→l.length≤k→Pls r→rowO k (rwB l++r)=some (l,r)
 | [],k,r,_,_,hr=>by
   rw [rwB,nil_app]
   cases k with
   | zero=>rfl
   | succ k=>
     rw [rowO,if_pos]
     rcases hr with rfl | ⟨r',rfl⟩
     ·exact .inl rfl
     ·exact .inr (preB_app _ _)
 | v::l,0,r,_,h,_=>by simp at h
 | v::l,k+1,r,hv,hk,hr=>by
   have hnm:=hv v List.mem_cons_self
   simp only [nmW,Bool.and_eq_true,decide_eq_true_eq] at hnm
   have hst:Stp sgNum (rwB l++r):=by
    cases l with
    | nil=>rw [rwB,nil_app];exact hr.stp (by decide)
    | cons p l=>rw [rwB,app_assoc,app_assoc];exact stp_sp (by decide) _
   rw [rwB,app_assoc,app_assoc]
   have hne: ¬(sp1++(dgB v++(rwB l++r))=⟨#[]⟩∨preB (sp1++(dgB v++(rwB l++r))) plusB=true):=by
    rintro (h | h)
    ·have:=congrArg ByteArray.size h
     rw [app_size] at this
     have h1:sp1.size=1:=rfl
     have h0:(⟨#[]⟩:ByteArray).size=0:=rfl
     omega
    ·rw [preB,app_list,app_list] at h
     have hd: ∃b m,(dgB v).data.toList=b::m∧b≠43:=by
      cases hl:(dgB v).data.toList with
      | nil=>exact absurd hl (dec_ne v.toNat)
      | cons b m=>
        have:=dec_digit v.toNat b (by show b∈(dgB v).data.toList;rw [hl];exact List.mem_cons_self)
        exact ⟨b,m,rfl,by rintro rfl;exact absurd this.1 (by decide)⟩
     obtain ⟨b,m,hb,h43⟩:=hd
     rw [hb] at h
     have h':List.isPrefixOf [32,43,32] (32::b::(m++(rwB l++r).data.toList))=true:=h
     rw [List.isPrefixOf,List.isPrefixOf] at h'
     simp [Ne.symm h43] at h'
   rw [rowO,if_neg hne,hear_app,Option.bind_some,num_app hnm.1 (by exact hnm.2) (by decide) hst,Option.bind_some,row_app l k (fun w hw=>hv w (List.mem_cons_of_mem _ hw)) (by simpa using hk) hr,Option.bind_some]
   show some (((v.toNat:Nat):Int)::l,r)=_
   rw [Int.toNat_of_nonneg hnm.1]
theorem bare_eq {x:Sp} (h:bareS x=true):(bareN x).a=x.a∧(bareN x).b=x.b∧(bareN x).c=x.c∧(bareN x).n=x.n∧(x.do_=2∨x.text=⟨#[]⟩)∧(x.do_=6∨x.list= []):=by
 simp only [bareS,Bool.and_eq_true,Bool.or_eq_true,beq_iff_eq,decide_eq_true_eq] at h
 obtain ⟨⟨⟨⟨⟨h1,h2⟩,h3⟩,h4⟩,h5⟩,h6⟩:=h
 exact ⟨h1,h2,h3,h4,h5,h6⟩
theorem rw_len (l:List Int):l.length≤(rwB l).size:=by
 induction l with
 | nil=>exact Nat.zero_le _
 | cons v l ih=>
   have h1:sp1.size=1:=rfl
   rw [rwB,app_size,app_size,List.length_cons];omega
theorem sp_ext {x y:Sp} (h0:x.do_=y.do_) (h1:x.a=y.a) (h2:x.b=y.b) (h3:x.c=y.c) (h4:x.n=y.n) (h5:x.text=y.text) (h6:x.list=y.list):x=y:=by
 cases x;cases y
 simp only at h0 h1 h2 h3 h4 h5 h6
 subst h0 h1 h2 h3 h4 h5 h6
 rfl
theorem step_back {x:Sp} (hx:SpP x) {t:ByteArray} (h:stepV x=some t) {r:ByteArray} (hr:Pls r):estO (t++r)=some (x,r):=by
 obtain ⟨u,hu,h⟩:=Option.bind_eq_some_iff.1 h
 split at h
 rotate_left
 ·cases h
 rename_i hb
 cases h
 obtain ⟨b1,b2,b3,b4,b5,b6⟩:=bare_eq hb
 obtain ⟨f1,f2,f3⟩:=brF_do x (kO x.do_) (sp0 x.do_)
 have hd0:kdTo (kW x.do_) 9=x.do_:=kd_back hx.do_.1 hx.do_.2
 have hne: ¬x.do_=0:=by have:=hx.do_.1;omega
 have hst:Stp sgNum (u++r)∧Stp sgSp (fsB x (kO x.do_)++(u++r)):=by
  have hu2:(∃w,u=sp1++w)∨u=⟨#[]⟩:=by
   unfold tailV at hu
   split at hu
   ·obtain ⟨w,_,rfl⟩:=Option.map_eq_some_iff.1 hu;exact .inl ⟨_,rfl⟩
   split at hu
   ·cases hu
    cases x.list with
    | nil=>exact .inr rfl
    | cons v l=>exact .inl ⟨dgB v++rwB l,by rw [rwB,app_assoc]⟩
   ·cases hu;exact .inr rfl
  have h1: ∀z:ByteArray,(32:UInt8)∈z.data.toList→Stp z (u++r):=fun z hz=>by
   rcases hu2 with ⟨w,rfl⟩ | rfl
   ·rw [app_assoc];exact stp_sp hz _
   ·rw [nil_app];exact hr.stp hz
  refine ⟨h1 _ (by decide), ?_⟩
  cases kO x.do_ with
  | nil=>rw [fsB,nil_app];exact h1 _ (by decide)
  | cons o os=>rw [fsB,app_assoc,app_assoc];exact stp_sp (by decide) _
 have hw:wordO (((kW x.do_++fsB x (kO x.do_))++u)++r) sgSp=(kW x.do_,fsB x (kO x.do_)++(u++r)):=by
  rw [app_assoc,app_assoc]
  exact word_app sgSp_ok (kW_32 _) hst.2
 rw [estO,hw]
 dsimp only
 rw [hd0,if_neg hne,fs_app hx _ _ hst.1,Option.bind_some]
 dsimp only
 have hbn:brF x (kO x.do_) (sp0 x.do_)=bareN x:=rfl
 rw [hbn] at f1 f2 f3⊢
 have g1:(bareN x).do_=x.do_:=f1
 have g2:(bareN x).text=⟨#[]⟩:=f2
 have g3:(bareN x).list= []:=f3
 rw [g1]
 unfold tailV at hu
 by_cases h2:x.do_=2
 ·rw [if_pos h2] at hu⊢
  obtain ⟨w,hw1,rfl⟩:=Option.map_eq_some_iff.1 hu
  unfold termV at hw1
  split at hw1
  rotate_left
  ·cases hw1
  rename_i hl0
  cases hw1
  have hdz:=dataE_sz (s:=x.text)
  have hmay:mayB (dataE x.text).1=true:=by
   apply Classical.byContradiction
   intro hn
   rw [lineE,if_neg hn] at hl0
   cases hl0
  have htx:x.text.size≤1024:=hx.text
  have hde:(dataE x.text).1=bytesI [100]++textB x.text:=by rw [dataE,if_neg (by omega)];rfl
  rw [app_assoc,hear_app,Option.bind_some,term_app (sg:=plusB) (.inr rfl) hmay (by omega) hr,Option.bind_some]
  dsimp only
  have hk:kindN (dataE x.text).1=1:=by
   rw [kindN,if_pos hmay,hde,byte0_one (by decide) (by decide)];rfl
  have htn:(textN (dataE x.text).1).1=x.text:=by rw [hde] at hmay⊢;exact text_of (.inl rfl) htx hmay
  rw [if_pos hk,htn]
  have h6:x.list= []:=b6.resolve_left (by omega)
  exact congrArg (fun z=>some (z,r)) (sp_ext rfl b1 b2 b3 b4 rfl (g3.trans h6.symm))
 rw [if_neg h2] at hu⊢
 by_cases h6:x.do_=6
 ·rw [if_pos h6] at hu⊢
  cases hu
  rw [row_app x.list _ hx.list (by have:=rw_len x.list;rw [app_size];omega) hr,Option.bind_some]
  have ht:x.text=⟨#[]⟩:=b5.resolve_left h2
  exact congrArg (fun z=>some (z,r)) (sp_ext rfl b1 b2 b3 b4 (g2.trans ht.symm) rfl)
 ·rw [if_neg h6] at hu⊢
  cases hu
  have ht:x.text=⟨#[]⟩:=b5.resolve_left h2
  have hl:x.list= []:=b6.resolve_left h6
  rw [nil_app]
  exact congrArg (fun z=>some (z,r)) (sp_ext g1 b1 b2 b3 b4 (g2.trans ht.symm) (g3.trans hl.symm))
theorem app_nul (s:ByteArray):s++(⟨#[]⟩:ByteArray)=s:=by
 apply ByteArray.ext
 apply Array.toList_inj.1
 rw [app_list]
 exact List.append_nil _
theorem preB_ex {s p:ByteArray} (h:preB s p=true): ∃r,s=p++r:=by
 obtain ⟨t,ht⟩:=List.isPrefixOf_iff_prefix.1 h
 refine ⟨⟨t.toArray⟩,ByteArray.ext (Array.toList_inj.1 ?_)⟩
 rw [app_list]
 exact ht.symm
theorem post_no {o v:ByteArray} (ho: ∀b∈o.data.toList,b∉sgOrg.data.toList) (hv:dig0 v=false):postQ (o++(sp1++v))=false:=by
 apply Bool.eq_false_iff.2
 intro h
 rw [postQ,Bool.and_eq_true] at h
 obtain ⟨h1,h2⟩:=h
 obtain ⟨r,hr⟩:=preB_ex h1
 rw [hr,nextR_app] at h2
 have e1:=word_app sgOrg_ok ho (stp_sp (by decide) v)
 have hp:wPost=(⟨#[112,111,115,116]⟩:ByteArray)++sp1:=by decide
 have e2:=word_app sgOrg_ok (w:=⟨#[112,111,115,116]⟩) (by decide) (stp_sp (by decide) r)
 rw [hr,hp,app_assoc,e2] at e1
 have h3:sp1++r=sp1++v:=congrArg Prod.snd e1
 have h4:nextR (sp1++r) sp1=nextR (sp1++v) sp1:=by rw [h3]
 rw [nextR_app,nextR_app] at h4
 rw [h4,hv] at h2
 cases h2
theorem act_app {names:List ByteArray} (hn:rollB names=true) {k:Nat} {o w r:ByteArray} (hk:orgV names k=some o) (hw: ∀b∈w.data.toList,b∉sgSp.data.toList) (hd:dig0 (w++r)=false) (hr:Stp sgSp r):
 actO names (o++(sp1++(w++r)))=verbO names k w r:=by
 have ho:=name_sign (roll_name hn o (List.mem_of_getElem? hk))
 rw [actO,if_neg (by rw [post_no ho hd];decide),org_app hn hk (stp_sp (by decide) _),Option.bind_some]
 dsimp only
 rw [hear_app,Option.bind_some]
 dsimp only
 rw [word_app sgSp_ok hw hr]
theorem yes_t (u:ByteArray):yesO (wYes++u)=some (true,u):=by rw [yesO,if_pos (preB_app _ _),nextR_app]
theorem yes_f (u:ByteArray):yesO (wNo++u)=some (false,u):=by
 have h:preB (wNo++u) wYes=false:=by unfold preB;rw [app_list];rfl
 rw [yesO,if_neg (by rw [h];decide),hear_app];rfl
theorem txn_back {names:List ByteArray} (hn:rollB names=true) {t:Tx} (ht:mayTx t=true) {w:ByteArray} (h:txnV names t=some w):txnO names w=some (t,⟨#[]⟩):=by
 obtain ⟨o,ho,rfl⟩:=Option.map_eq_some_iff.1 h
 have ht':=ht
 rw [mayTx] at ht
 simp only [Bool.and_eq_true,decide_eq_true_eq] at ht
 obtain ⟨⟨⟨⟨h1,h2⟩,h3⟩,h4⟩,h5⟩:=ht
 have hc:=rIn h1
 have hsl: ∀r,Stp sgOrg (slB++r):=fun r=>Stp.app r ⟨47,[],rfl,by decide⟩
 have hsn: ∀r,Stp sgNum (slB++r):=fun r=>Stp.app r ⟨47,[],rfl,by decide⟩
 have hq:=num_app (most:=65535) (n:=t.seq) (by omega) (by omega) (by decide) (Stp.nil sgNum)
 rw [app_nul] at hq
 rw [app_assoc,app_assoc,txnO,org_app hn ho (hsl _),Option.bind_some]
 dsimp only
 rw [hear_app,Option.bind_some]
 dsimp only
 rw [num_app (by omega) (by omega) (by decide) (hsn _),Option.bind_some]
 dsimp only
 rw [hear_app,Option.bind_some]
 dsimp only
 rw [hq,Option.bind_some]
 dsimp only
 have e:(⟨(t.coord.toNat:Int),(t.epoch.toNat:Int),(t.seq.toNat:Int)⟩:Tx)=t:=by
  rw [Int.toNat_of_nonneg hc.1,Int.toNat_of_nonneg (by omega:0≤t.epoch),Int.toNat_of_nonneg (by omega:0≤t.seq)]
 rw [e,if_pos ht']
theorem gives_back {names:List ByteArray} (hn:rollB names=true): ∀(l:List Mb) (f:Bool) (k:Nat) {t:ByteArray},l.length≤k→(∀m∈l,GvP m∧m.digest.size<1000000)→givesV names f l=some t→
 gvO names k (if f then colB else semB) t=some (l,⟨#[]⟩)∧(t=⟨#[]⟩∨ ∃r,t=(if f then colB else semB)++r)∧l.length≤t.size
 | [],f,k,t,_,_,h=>by
   cases h
   refine ⟨?_,.inl rfl,Nat.le_refl _⟩
   cases k with
   | zero=>rfl
   | succ k=>rw [gvO,if_pos rfl]
 | m::l,f,0,t,hk,_,_=>by simp at hk
 | m::l,f,k+1,t,hk,hp,h=>by
   rw [givesV] at h
   obtain ⟨o,ho,h⟩:=Option.bind_eq_some_iff.1 h
   obtain ⟨w,hw,h⟩:=Option.bind_eq_some_iff.1 h
   obtain ⟨b,hb,h⟩:=Option.bind_eq_some_iff.1 h
   cases h
   obtain ⟨i1,i2,i3⟩:=gives_back hn l false k (by simpa using hk) (fun x hx=>hp x (List.mem_cons_of_mem _ hx)) hb
   obtain ⟨⟨g1,g2⟩,g3⟩:=hp m List.mem_cons_self
   have hz:(if f=true then colB else semB).size=2:=by cases f <;> rfl
   refine ⟨?_,.inr ⟨_,by rw [app_assoc,app_assoc]⟩,by rw [app_size,app_size,app_size,List.length_cons];omega⟩
   unfold termV at hw
   split at hw
   rotate_left
   ·cases hw
   cases hw
   rw [gvO,if_neg (by intro e;have:=congrArg ByteArray.size e;rw [app_size,app_size,app_size] at this;have h0:(⟨#[]⟩:ByteArray).size=0:=rfl;omega),app_assoc,app_assoc,hear_app,Option.bind_some]
   dsimp only
   rw [app_assoc,org_app hn ho (stp_sp (by decide) _),Option.bind_some]
   dsimp only
   rw [hear_app,Option.bind_some]
   dsimp only
   rw [term_app (sg:=semB) (.inl rfl) (by rw [mayB,g2];rfl) (by omega) i2,Option.bind_some]
   dsimp only
   rw [show gvO names k semB b=_ from i1,Option.bind_some]
   dsimp only
   rw [Int.toNat_of_nonneg (rIn g1).1]
theorem more_back: ∀(l:List Sp) (k:Nat) {t:ByteArray},l.length≤k→(∀x∈l,SpP x)→stepsW false l=some t→moreO k t=some (l,⟨#[]⟩)∧Pls t∧l.length≤t.size
 | [],k,t,_,_,h=>by
   cases h
   refine ⟨?_,.inl rfl,Nat.le_refl _⟩
   cases k with
   | zero=>rfl
   | succ k=>rw [moreO,if_neg (by decide)]
 | x::l,0,t,hk,_,_=>by simp at hk
 | x::l,k+1,t,hk,hp,h=>by
   rw [stepsW] at h
   obtain ⟨a,ha,h⟩:=Option.bind_eq_some_iff.1 h
   obtain ⟨b,hb,h⟩:=Option.bind_eq_some_iff.1 h
   cases h
   obtain ⟨i1,i2,i3⟩:=more_back l k (by simpa using hk) (fun y hy=>hp y (List.mem_cons_of_mem _ hy)) hb
   have hz:plusB.size=3:=rfl
   refine ⟨?_,.inr ⟨a++b,app_assoc _ _ _⟩, ?_⟩
   ·show moreO (k+1) ((plusB++a)++b)=_
    rw [app_assoc,moreO,if_pos (preB_app _ _),nextR_app,step_back (hp x List.mem_cons_self) ha i2,Option.bind_some]
    dsimp only
    rw [i1,Option.bind_some]
   ·show _≤((plusB++a)++b).size
    rw [app_size,app_size,List.length_cons];omega
theorem est_nothing:estO wNothing=none:=by
 have h:=word_app sgSp_ok (w:=wNothing) (by decide) (Stp.nil sgSp)
 rw [app_nul] at h
 rw [estO,h]
 exact if_pos (by decide)
theorem steps_back {l:List Sp} (hp: ∀x∈l,SpP x) {t:ByteArray} (h:stepsV l=some t):stepsO t=some (l,⟨#[]⟩):=by
 cases l with
 | nil=>cases h;exact if_pos rfl
 | cons x l=>
   rw [stepsV,if_neg (by simp),stepsW] at h
   obtain ⟨a,ha,h⟩:=Option.bind_eq_some_iff.1 h
   obtain ⟨b,hb,h⟩:=Option.bind_eq_some_iff.1 h
   cases h
   obtain ⟨_,i2,i3⟩:=more_back l l.length (Nat.le_refl _) (fun y hy=>hp y (List.mem_cons_of_mem _ hy)) hb
   obtain ⟨i1,_,_⟩:=more_back l b.size i3 (fun y hy=>hp y (List.mem_cons_of_mem _ hy)) hb
   have hs:=step_back (hp x List.mem_cons_self) ha i2
   show stepsO (a++b)=_
   rw [stepsO,if_neg (by intro e;rw [e,est_nothing] at hs;cases hs),hs,Option.bind_some]
   dsimp only
   rw [i1,Option.bind_some]
theorem beg_for {names:List ByteArray} (hn:rollB names=true) {o au:Int} {g:List Mb} (h2:orgW au=true) (hp: ∀m∈g,GvP m∧m.digest.size<1000000) {w t:ByteArray} (ha:orgV names au.toNat=some w) (ht:givesV names true g=some t):
 begO names o (wFor++(w++t))=some (⟨1,o,au,0,g,tz,false,[]⟩,⟨#[]⟩):=by
 obtain ⟨_,i2,i3⟩:=gives_back hn g true g.length (Nat.le_refl _) hp ht
 obtain ⟨i1,_,_⟩:=gives_back hn g true t.size i3 hp ht
 have hst:Stp sgOrg t:=by
  rcases i2 with rfl | ⟨r,rfl⟩
  ·exact Stp.nil _
  ·exact Stp.app r ⟨58,[32],rfl,by decide⟩
 rw [begO,if_neg (by intro e;have h:=congrArg (fun s:ByteArray=>s.data.toList) e;rw [app_list] at h;simp [wFor,wAnew] at h),hear_app,Option.bind_some]
 dsimp only
 rw [org_app hn ha hst,Option.bind_some]
 dsimp only
 rw [show gvO names t.size colB t=_ from i1,Option.bind_some]
 dsimp only
 rw [Int.toNat_of_nonneg (rIn h2).1]
theorem aft_ex {p t:ByteArray} {o:Option ByteArray} (h:aft p o=some t): ∃u,o=some u∧t=p++u:=by
 obtain ⟨u,h1,h2⟩:=Option.map_eq_some_iff.1 h
 exact ⟨u,h1,h2.symm⟩
theorem dig_app {w:ByteArray} (h: ∃b l,w.data.toList=b::l∧((b.toNat:Int)<48∨57<(b.toNat:Int))) (r:ByteArray):dig0 (w++r)=false:=by
 obtain ⟨b,l,h1,h2⟩:=h
 unfold dig0
 rw [app_list,h1]
 show (decide _&&decide _)=false
 rw [Bool.and_eq_false_iff,decide_eq_false_iff_not,decide_eq_false_iff_not]
 omega
theorem dig_post {n:Int} (h:nmW n=true):actO [] ((wPost++dgB n)++wComes)=some (⟨4,0,0,n,[],tz,false,[]⟩,⟨#[]⟩)∧postQ ((wPost++dgB n)++wComes)=true:=by
 have hm:=nIn h
 have hq:postQ ((wPost++dgB n)++wComes)=true:=by
  rw [app_assoc,postQ,preB_app,nextR_app,Bool.true_and]
  unfold dig0
  rw [app_list]
  cases hl:(dgB n).data.toList with
  | nil=>exact absurd hl (dec_ne n.toNat)
  | cons b m=>
    have:=dec_digit n.toNat b (by show b∈(dgB n).data.toList;rw [hl];exact List.mem_cons_self)
    show (decide _&&decide _)=true
    rw [Bool.and_eq_true,decide_eq_true_eq,decide_eq_true_eq]
    omega
 have hc:=hear_app wComes ⟨#[]⟩
 rw [app_nul] at hc
 refine ⟨?_,hq⟩
 have hst:Stp sgNum wComes:= .inr ⟨32,_,rfl,by decide⟩
 rw [actO,if_pos hq,app_assoc,nextR_app,postO,num_app hm.1 (by exact hm.2) (by decide) hst,Option.bind_some]
 dsimp only
 rw [hc,Option.bind_some,Int.toNat_of_nonneg hm.1]
theorem lineV_of {names:List ByteArray} {a:Aa} {t:ByteArray} (h4: ¬a.do_=4) (h:lineV names a=some t): ∃w u,orgV names a.org.toNat=some w∧verbV names a=some u∧t=w++u:=by
 rw [lineV,if_neg h4] at h
 obtain ⟨w,hw,h⟩:=Option.bind_eq_some_iff.1 h
 obtain ⟨u,hu,h⟩:=aft_ex h
 exact ⟨w,u,hw,hu,h⟩
theorem act_back {names:List ByteArray} (hn:rollB names=true) {a:Aa} (ha:AcP a) (hd: ∀m∈a.gives,m.digest.size<1000000) {t:ByteArray} (h:lineV names a=some t):actO names t=some (a,⟨#[]⟩):=by
 have hs1: ∀r,Stp sgSp (sp1++r):=fun r=>stp_sp (by decide) r
 cases ha with
 | deliver n h1=>
   cases h
   have:=(dig_post h1).1
   have hq:=(dig_post h1).2
   rw [actO,if_pos hq] at this⊢
   exact this
 | begin_ o au g h1 h2 h3 h4=>
   obtain ⟨w,u,hw,hu,rfl⟩:=lineV_of (by simp) h
   have hu:begV names ⟨1,o,au,0,g,tz,false,[]⟩=some u:=hu
   rw [begV] at hu
   obtain ⟨x,hx,hu⟩:=Option.bind_eq_some_iff.1 hu
   obtain ⟨y,hy,rfl⟩:=aft_ex hu
   have e:vBegins=sp1++(wBegins++wFor):=by decide
   rw [e,app_assoc,app_assoc,app_assoc,act_app hn hw (by decide) (dig_app ⟨98,_,rfl,by decide⟩ _) (Stp.app (p:=wFor) _ ⟨32,_,rfl,by decide⟩),verbO,if_pos rfl,Int.toNat_of_nonneg (rIn h1).1]
   exact beg_for hn h2 (fun m hm=>⟨h4 m hm,hd m hm⟩) hx hy
 | submit o tx y h1 h2=>
   obtain ⟨w,u,hw,hu,rfl⟩:=lineV_of (by simp) h
   have hu:aft (if y=true then vYes else vNo) (txnV names tx)=some u:=hu
   obtain ⟨x,hx,rfl⟩:=aft_ex hu
   have ht:=txn_back hn h2 hx
   cases y
   ·have e:vNo=sp1++(wSays++(wNo++wTo)):=by decide
    rw [if_neg (by decide),e,app_assoc,app_assoc,app_assoc,act_app hn hw (by decide) (dig_app ⟨115,_,rfl,by decide⟩ _) (Stp.app (p:=wNo) _ ⟨32,_,rfl,by decide⟩),verbO,if_neg (by decide),if_pos rfl,saysO,yes_f,Option.bind_some]
    dsimp only
    rw [hear_app,Option.bind_some]
    dsimp only
    rw [ht,Option.bind_some,Int.toNat_of_nonneg (rIn h1).1]
   ·have e:vYes=sp1++(wSays++(wYes++wTo)):=by decide
    rw [if_pos rfl,e,app_assoc,app_assoc,app_assoc,act_app hn hw (by decide) (dig_app ⟨115,_,rfl,by decide⟩ _) (Stp.app (p:=wYes) _ ⟨32,_,rfl,by decide⟩),verbO,if_neg (by decide),if_pos rfl,saysO,yes_t,Option.bind_some]
    dsimp only
    rw [hear_app,Option.bind_some]
    dsimp only
    rw [ht,Option.bind_some,Int.toNat_of_nonneg (rIn h1).1]
 | tick o h1=>
   obtain ⟨w,u,hw,hu,rfl⟩:=lineV_of (by simp) h
   cases hu
   have e:vTicks=sp1++(wTicks++⟨#[]⟩):=by decide
   rw [e,act_app hn hw (by decide) (dig_app ⟨116,_,rfl,by decide⟩ _) (Stp.nil _),verbO,if_neg (by decide),if_neg (by decide),if_pos rfl,Int.toNat_of_nonneg (rIn h1).1]
 | restart o h1=>
   obtain ⟨w,u,hw,hu,rfl⟩:=lineV_of (by simp) h
   cases hu
   have e:vAnew=sp1++(wBegins++wAnew):=by decide
   rw [e,act_app hn hw (by decide) (dig_app ⟨98,_,rfl,by decide⟩ _) (.inr ⟨32,_,rfl,by decide⟩),verbO,if_pos rfl,begO,if_pos rfl,Int.toNat_of_nonneg (rIn h1).1]
 | arm o n h1 h2=>
   obtain ⟨w,u,hw,hu,rfl⟩:=lineV_of (by simp) h
   cases hu
   have hm:=nIn h2
   have hq:=num_app (most:=2147483647) hm.1 (by exact hm.2) (by decide) (Stp.nil sgNum)
   rw [app_nul] at hq
   have e:vStops=sp1++(wStops++wBehind):=by decide
   rw [e,app_assoc,app_assoc,act_app hn hw (by decide) (dig_app ⟨115,_,rfl,by decide⟩ _) (Stp.app (p:=wBehind) _ ⟨32,_,rfl,by decide⟩),verbO,if_neg (by decide),if_neg (by decide),if_neg (by decide),if_neg (by decide),if_neg (by decide),if_pos rfl,nmO,hear_app,Option.bind_some]
   dsimp only
   rw [hq,Option.bind_some,Int.toNat_of_nonneg (rIn h1).1,Int.toNat_of_nonneg hm.1]
 | crash o n h1 h2=>
   obtain ⟨w,u,hw,hu,rfl⟩:=lineV_of (by simp) h
   cases hu
   have hm:=nIn h2
   have hq:=num_app (most:=2147483647) hm.1 (by exact hm.2) (by decide) (Stp.nil sgNum)
   rw [app_nul] at hq
   have e:vCrash=sp1++(wCrashes++wKeeps):=by decide
   rw [e,app_assoc,app_assoc,act_app hn hw (by decide) (dig_app ⟨99,_,rfl,by decide⟩ _) (Stp.app (p:=wKeeps) _ ⟨32,_,rfl,by decide⟩),verbO,if_neg (by decide),if_neg (by decide),if_neg (by decide),if_neg (by decide),if_neg (by decide),if_neg (by decide),if_pos rfl,nmO,hear_app,Option.bind_some]
   dsimp only
   rw [hq,Option.bind_some,Int.toNat_of_nonneg (rIn h1).1,Int.toNat_of_nonneg hm.1]
 | inject o l h1 h2 h3=>
   obtain ⟨w,u,hw,hu,rfl⟩:=lineV_of (by simp) h
   have hu:aft vGets (stepsV l)=some u:=hu
   obtain ⟨x,hx,rfl⟩:=aft_ex hu
   have e:vGets=sp1++(wGets++sp1):=by decide
   rw [e,app_assoc,app_assoc,act_app hn hw (by decide) (dig_app ⟨103,_,rfl,by decide⟩ _) (hs1 _),verbO,if_neg (by decide),if_neg (by decide),if_neg (by decide),if_pos rfl,stpO,hear_app,Option.bind_some]
   dsimp only
   rw [steps_back h3 hx,Option.bind_some,Int.toNat_of_nonneg (rIn h1).1]
 | present o l h1 h2 h3=>
   obtain ⟨w,u,hw,hu,rfl⟩:=lineV_of (by simp) h
   have hu:aft vJudges (stepsV l)=some u:=hu
   obtain ⟨x,hx,rfl⟩:=aft_ex hu
   have e:vJudges=sp1++(wJudges++sp1):=by decide
   rw [e,app_assoc,app_assoc,act_app hn hw (by decide) (dig_app ⟨106,_,rfl,by decide⟩ _) (hs1 _),verbO,if_neg (by decide),if_neg (by decide),if_neg (by decide),if_neg (by decide),if_pos rfl,stpO,hear_app,Option.bind_some]
   dsimp only
   rw [steps_back h3 hx,Option.bind_some,Int.toNat_of_nonneg (rIn h1).1]
 | exprt o tx h1 h2=>
   obtain ⟨w,u,hw,hu,rfl⟩:=lineV_of (by simp) h
   have hu:aft vShows (txnV names tx)=some u:=hu
   obtain ⟨x,hx,rfl⟩:=aft_ex hu
   have e:vShows=sp1++(wShows++sp1):=by decide
   rw [e,app_assoc,app_assoc,act_app hn hw (by decide) (dig_app ⟨115,_,rfl,by decide⟩ _) (hs1 _),verbO,if_neg (by decide),if_neg (by decide),if_neg (by decide),if_neg (by decide),if_neg (by decide),if_neg (by decide),if_neg (by decide),if_pos rfl,shwO,hear_app,Option.bind_some]
   dsimp only
   rw [txn_back hn h2 hx,Option.bind_some,Int.toNat_of_nonneg (rIn h1).1]
theorem line_some {names:List ByteArray} {a:Aa} (h:(lineA names a).2=0):rollB names=true∧AcP a∧lineV names a=some (lineA names a).1:=by
 unfold lineA at h⊢
 split at h
 ·rename_i hc
  rw [if_pos hc]
  revert h
  cases lineV names a with
  | none=>intro h;cases h
  | some t=>intro _;exact ⟨hc.1,(chkS_iff a).1 hc.2,rfl⟩
 ·cases h
theorem line_back_ {names:List ByteArray} {a:Aa} (h:(lineA names a).2=0) (hd: ∀m∈a.gives,m.digest.size<1000000):parseA names (lineA names a).1=(a,0):=by
 obtain ⟨h1,h2,h3⟩:=line_some h
 rw [parseA,if_pos h1,parseP,act_back h1 h2 hd h3,Option.bind_some,if_pos ⟨rfl,(chkS_iff a).2 h2⟩]
def tailT (x:Sp):ByteArray:=if x.do_=2 then sp1++(lineE (dataE x.text).1).1 else if x.do_=6 then rwB x.list else ⟨#[]⟩
def stepT (x:Sp):ByteArray:=(kW x.do_++fsB x (kO x.do_))++tailT x
def bareP (x:Sp):Sp:=⟨x.do_,(bareN x).a,(bareN x).b,(bareN x).c,(bareN x).n,if x.do_=2 then x.text else ⟨#[]⟩,if x.do_=6 then x.list else []⟩
theorem bareP_iff (x:Sp):x=bareP x↔bareS x=true:=by
 unfold bareS
 simp only [Bool.and_eq_true,Bool.or_eq_true,decide_eq_true_eq,beq_iff_eq]
 constructor
 ·intro h
  have e1:=congrArg Sp.a h
  have e2:=congrArg Sp.b h
  have e3:=congrArg Sp.c h
  have e4:=congrArg Sp.n h
  have e5:=congrArg Sp.text h
  have e6:=congrArg Sp.list h
  simp only [bareP] at e1 e2 e3 e4 e5 e6
  refine ⟨⟨⟨⟨⟨e1.symm,e2.symm⟩,e3.symm⟩,e4.symm⟩, ?_⟩, ?_⟩
  ·by_cases h2:x.do_=2
   ·exact .inl h2
   ·rw [if_neg h2] at e5;exact .inr e5
  ·by_cases h2:x.do_=6
   ·exact .inl h2
   ·rw [if_neg h2] at e6;exact .inr e6
 ·rintro ⟨⟨⟨⟨⟨e1,e2⟩,e3⟩,e4⟩,e5⟩,e6⟩
  unfold bareP
  rw [e1,e2,e3,e4]
  refine sp_ext rfl rfl rfl rfl rfl ?_ ?_
  ·show x.text=if x.do_=2 then x.text else ⟨#[]⟩
   rcases e5 with h | h
   ·rw [if_pos h]
   ·rw [h];split <;> rfl
  ·show x.list=if x.do_=6 then x.list else []
   rcases e6 with h | h
   ·rw [if_pos h]
   ·rw [h];split <;> rfl
theorem data_may {s:ByteArray} (h:s.size≤1024):mayB (dataE s).1=true:=by
 have hz:=dataE_sz (s:=s)
 refine (mayB_iff (by omega)).2 ⟨?_,hz⟩
 rw [dataE,if_neg (by omega)]
 exact ⟨bytesI [100]++textB s,[],Hd.data h,(app_nil _).symm,fun p hp=>by cases hp⟩
theorem tail_some {x:Sp} (h:SpP x):tailV x=some (tailT x):=by
 unfold tailV tailT
 by_cases h2:x.do_=2
 ·rw [if_pos h2,if_pos h2,termV,lineE,if_pos (data_may h.text)];rfl
 rw [if_neg h2,if_neg h2]
 by_cases h6:x.do_=6
 ·rw [if_pos h6,if_pos h6]
 ·rw [if_neg h6,if_neg h6]
theorem step_some {x:Sp} (h:SpP x):stepV x=if bareS x=true then some (stepT x)else none:=by
 rw [stepV,tail_some h];rfl
theorem steps_some: ∀ {l:List Sp} (f:Bool),(∀x∈l,SpP x)→stepsW f l=if (∀x∈l,bareS x=true)then some (seqC plusB f (l.map stepT))else none
 | [],f,_=>by rw [if_pos (fun x hx=>by cases hx)];rfl
 | x::l,f,h=>by
   rw [stepsW,step_some (h x List.mem_cons_self),steps_some false fun y hy=>h y (List.mem_cons_of_mem _ hy)]
   by_cases hx:bareS x=true
   ·rw [if_pos hx,Option.bind_some]
    by_cases hl: ∀y∈l,bareS y=true
    ·rw [if_pos hl,if_pos (fun y hy=>by
       rcases List.mem_cons.1 hy with rfl | hy
       ·exact hx
       ·exact hl y hy)]
     rfl
    ·rw [if_neg hl,if_neg (show ¬ ∀y∈x::l,bareS y=true from fun h=>hl fun y hy=>h y (List.mem_cons_of_mem _ hy))];rfl
   ·rw [if_neg hx,if_neg (show ¬ ∀y∈x::l,bareS y=true from fun h=>hx (h x List.mem_cons_self))];rfl
def stepsT (l:List Sp):ByteArray:=if l= [] then wNothing else seqC plusB true (l.map stepT)
theorem stepsV_some {l:List Sp} (h: ∀x∈l,SpP x):stepsV l=if (∀x∈l,bareS x=true)then some (stepsT l)else none:=by
 unfold stepsV stepsT
 by_cases h0:l= []
 ·rw [if_pos h0,if_pos h0,h0,if_pos (fun x hx=>by cases hx)]
 ·rw [if_neg h0,if_neg h0];exact steps_some true h
def nameT (names:List ByteArray) (n:Int):ByteArray:=(names[n.toNat]?).getD ⟨#[]⟩
theorem name_some {names:List ByteArray} {n:Int} (h0:0≤n):orgV names n.toNat=if n<(names.length:Int)then some (nameT names n)else none:=by
 unfold orgV nameT
 by_cases h:n<(names.length:Int)
 ·rw [if_pos h,List.getElem?_eq_getElem (by omega)];rfl
 ·rw [if_neg h,List.getElem?_eq_none (by omega)]
def txnT (names:List ByteArray) (t:Tx):ByteArray:=nameT names t.coord++(((slB++dgB t.epoch)++slB)++dgB t.seq)
theorem txn_some {names:List ByteArray} {t:Tx} (h:mayTx t=true):txnV names t=if t.coord<(names.length:Int)then some (txnT names t)else none:=by
 rw [txnV,name_some (txIn h).1]
 split <;> rfl
def giveT (names:List ByteArray) (f:Bool) (m:Mb):ByteArray:=((if f then colB else semB)++nameT names m.org)++(sp1++(lineE m.digest).1)
def givesT (names:List ByteArray):Bool→List Mb→ByteArray
 | _,[]=>⟨#[]⟩
 | f,m::l=>giveT names f m++givesT names false l
theorem givesT_snoc (names:List ByteArray) (m:Mb): ∀(l:List Mb) (f:Bool),givesT names f (l++ [m])=givesT names f l++giveT names (f&&l.isEmpty) m
 | [],f=>by simp [givesT,app_nil,nil_app]
 | x::l,f=>by
   rw [List.cons_append,givesT,givesT_snoc names m l false,givesT,app_assoc]
   simp
theorem gv_term {m:Mb} (h:GvP m):termV m.digest=some (lineE m.digest).1:=by
 have hm:mayB m.digest=true:=by rw [mayB,decide_eq_true_eq];exact h.2
 rw [termV,lineE,if_pos hm];rfl
theorem gives_some {names:List ByteArray} : ∀ {l:List Mb} (f:Bool),(∀m∈l,GvP m)→givesV names f l=if (∀m∈l,m.org<(names.length:Int))then some (givesT names f l)else none
 | [],f,_=>by rw [if_pos (fun x hx=>by cases hx)];rfl
 | m::l,f,h=>by
   have hm:=h m List.mem_cons_self
   rw [givesV,name_some (rIn hm.1).1,gv_term hm,gives_some false fun y hy=>h y (List.mem_cons_of_mem _ hy)]
   by_cases hx:m.org<(names.length:Int)
   ·rw [if_pos hx,Option.bind_some,Option.bind_some]
    by_cases hl: ∀y∈l,y.org<(names.length:Int)
    ·rw [if_pos hl,if_pos (fun y hy=>by
       rcases List.mem_cons.1 hy with rfl | hy
       ·exact hx
       ·exact hl y hy)]
     rfl
    ·rw [if_neg hl,if_neg (show ¬ ∀y∈m::l,y.org<(names.length:Int)from fun h=>hl fun y hy=>h y (List.mem_cons_of_mem _ hy))];rfl
   ·rw [if_neg hx,if_neg (show ¬ ∀y∈m::l,y.org<(names.length:Int)from fun h=>hx (h m List.mem_cons_self))];rfl
structure MayL (k:Int) (a:Aa):Prop where
 org:a.do_≠4→a.org<k
 aud:a.do_=1→a.auditor<k
 tx:a.do_=2∨a.do_=9→a.txn.coord<k
 gives: ∀m∈a.gives,m.org<k
 steps: ∀x∈a.steps,bareS x=true
def verbT (names:List ByteArray) (a:Aa):ByteArray:=
 if a.do_=1 then (vBegins++nameT names a.auditor)++givesT names true a.gives else if a.do_=2 then (if a.yes=true then vYes else vNo)++txnT names a.txn else if a.do_=3 then vTicks else if a.do_=8 then vAnew
 else if a.do_=6 then vStops++dgB a.n else if a.do_=7 then vCrash++dgB a.n else if a.do_=5 then vGets++stepsT a.steps else if a.do_=10 then vJudges++stepsT a.steps else vShows++txnT names a.txn
def lineT (names:List ByteArray) (a:Aa):ByteArray:=if a.do_=4 then (wPost++dgB a.n)++wComes else nameT names a.org++verbT names a
theorem aft_some {t:ByteArray} {P:Prop} [Decidable P] {u:ByteArray} :aft t (if P then some u else none)=if P then some (t++u)else none:=by split <;> rfl
theorem line_told {names:List ByteArray} {a:Aa} (ha:AcP a):(MayL names.length a→lineV names a=some (lineT names a))∧(¬MayL names.length a→lineV names a=none):=by
 unfold lineV lineT
 have h0:=ha.fit.org.1
 by_cases h4:a.do_=4
 ·rw [if_pos h4,if_pos h4]
  refine ⟨fun _=>rfl,fun h=>absurd ?_ h⟩
  cases ha with
  | deliver n hn=>exact ⟨fun h=>absurd rfl h,(fun h=>by cases h),(fun h=>by rcases h with h | h <;> cases h),(fun m hm=>by cases hm),fun m hm=>by cases hm⟩
  | _=>cases h4
 rw [if_neg h4,if_neg h4,name_some h0]
 by_cases ho:a.org<(names.length:Int)
 rotate_left
 ·rw [if_neg ho]
  exact ⟨fun h=>absurd (h.org h4) ho,fun _=>rfl⟩
 rw [if_pos ho,Option.bind_some]
 suffices hv:(MayL names.length a→verbV names a=some (verbT names a))∧(¬MayL names.length a→verbV names a=none) by
  exact ⟨fun h=>by rw [hv.1 h];rfl,fun h=>by rw [hv.2 h];rfl⟩
 have hbase: ∀ {P:Prop},(MayL names.length a↔P)→ ∀ {o:Option ByteArray} {t:ByteArray},(P→o=some t)→(¬P→o=none)→(MayL names.length a→o=some t)∧(¬MayL names.length a→o=none):=by
  intro P hi o t h1 h2
  exact ⟨fun h=>h1 (hi.1 h),fun h=>h2 fun hp=>h (hi.2 hp)⟩
 cases ha with
 | begin_ o au g q1 q2 q3 q4=>
   rw [show verbV names ⟨1,o,au,0,g,tz,false,[]⟩=begV names ⟨1,o,au,0,g,tz,false,[]⟩from rfl,show verbT names ⟨1,o,au,0,g,tz,false,[]⟩=(vBegins++nameT names au)++givesT names true g from rfl,begV,name_some (rIn q2).1]
   refine hbase (P:=au<(names.length:Int)∧ ∀m∈g,m.org<(names.length:Int)) ⟨fun h=>⟨h.aud rfl,h.gives⟩,fun h=>⟨fun _=>ho,fun _=>h.1,(fun e=>by rcases e with e | e <;> cases e),h.2,fun m hm=>by cases hm⟩⟩ (fun h=> ?_) (fun h=> ?_)
   ·rw [if_pos h.1,Option.bind_some]
    show aft _ (givesV names true g)=_
    rw [gives_some true q4,if_pos h.2];rfl
   ·by_cases hau:au<(names.length:Int)
    ·rw [if_pos hau,Option.bind_some]
     show aft _ (givesV names true g)=_
     rw [gives_some true q4,if_neg (fun h'=>h ⟨hau,h'⟩)];rfl
    ·rw [if_neg hau];rfl
 | submit o t y q1 q2=>
   rw [show verbV names ⟨2,o,0,0,[],t,y,[]⟩=aft (if y=true then vYes else vNo) (txnV names t)from rfl,show verbT names ⟨2,o,0,0,[],t,y,[]⟩=(if y=true then vYes else vNo)++txnT names t from rfl,txn_some q2,aft_some]
   exact hbase (P:=t.coord<(names.length:Int)) ⟨fun h=>h.tx (.inl rfl),fun h=>⟨fun _=>ho,(fun e=>by cases e),fun _=>h,(fun m hm=>by cases hm),fun m hm=>by cases hm⟩⟩ (fun h=>if_pos h) (fun h=>if_neg h)
 | exprt o t q1 q2=>
   rw [show verbV names ⟨9,o,0,0,[],t,false,[]⟩=aft vShows (txnV names t)from rfl,show verbT names ⟨9,o,0,0,[],t,false,[]⟩=vShows++txnT names t from rfl,txn_some q2,aft_some]
   exact hbase (P:=t.coord<(names.length:Int)) ⟨fun h=>h.tx (.inr rfl),fun h=>⟨fun _=>ho,(fun e=>by cases e),fun _=>h,(fun m hm=>by cases hm),fun m hm=>by cases hm⟩⟩ (fun h=>if_pos h) (fun h=>if_neg h)
 | inject o l q1 q2 q3=>
   rw [show verbV names ⟨5,o,0,0,[],tz,false,l⟩=aft vGets (stepsV l)from rfl,show verbT names ⟨5,o,0,0,[],tz,false,l⟩=vGets++stepsT l from rfl,stepsV_some q3,aft_some]
   exact hbase (P:= ∀x∈l,bareS x=true) ⟨fun h=>h.steps,fun h=>⟨fun _=>ho,(fun e=>by cases e),(fun e=>by rcases e with e | e <;> cases e),(fun m hm=>by cases hm),h⟩⟩ (fun h=>if_pos h) (fun h=>if_neg h)
 | present o l q1 q2 q3=>
   rw [show verbV names ⟨10,o,0,0,[],tz,false,l⟩=aft vJudges (stepsV l)from rfl,show verbT names ⟨10,o,0,0,[],tz,false,l⟩=vJudges++stepsT l from rfl,stepsV_some q3,aft_some]
   exact hbase (P:= ∀x∈l,bareS x=true) ⟨fun h=>h.steps,fun h=>⟨fun _=>ho,(fun e=>by cases e),(fun e=>by rcases e with e | e <;> cases e),(fun m hm=>by cases hm),h⟩⟩ (fun h=>if_pos h) (fun h=>if_neg h)
 | deliver n q1=>exact absurd rfl h4
 | _=>exact hbase (P:=True) ⟨fun _=>trivial,fun _=>⟨fun _=>ho,(fun e=>by cases e),(fun e=>by rcases e with e | e <;> cases e),(fun m hm=>by cases hm),fun m hm=>by cases hm⟩⟩ (fun _=>rfl) (fun h=>absurd trivial h)
theorem line_doc (names:List ByteArray) (a:Aa):(rollB names=true∧AcP a∧MayL names.length a→lineA names a=(lineT names a,0))∧(¬(rollB names=true∧AcP a∧MayL names.length a)→lineA names a=(⟨#[]⟩,2)):=by
 unfold lineA
 constructor
 ·rintro ⟨h1,h2,h3⟩
  rw [if_pos ⟨h1,(chkS_iff _).2 h2⟩,(line_told h2).1 h3]
 ·intro h
  by_cases h1:rollB names=true∧chkS a=0
  ·have h2:=(chkS_iff _).1 h1.2
   rw [if_pos h1,(line_told h2).2 fun h3=>h ⟨h1.1,h2,h3⟩]
  ·rw [if_neg h1]
theorem ext_to (s:ByteArray) (n:Nat):(s.extract n s.size).data.toList=s.data.toList.drop n:=by
 rw [ba_extract,List.take_of_length_le (by rw [ba_len];exact Nat.le_refl _)]
theorem ext_cut (s:ByteArray) (n:Nat):s=s.extract 0 n++s.extract n s.size:=by
 apply ba_ext
 rw [app_list,ext_to,ba_extract,List.drop_zero,List.take_append_drop]
theorem pre_split {s p:ByteArray} (h:preB s p=true):s=p++nextR s p:=by
 rw [nextR,if_pos h]
 unfold preB at h
 obtain ⟨l,hl⟩:=List.isPrefixOf_iff_prefix.1 h
 apply ba_ext
 rw [app_list,ext_to,←hl,←ba_len p,List.drop_left]
theorem hear_split {s p:ByteArray} {x:Unit×ByteArray} (h:hearO s p=some x):s=p++x.2:=by
 unfold hearO at h
 split at h
 ·rename_i hp;cases h;exact pre_split hp
 ·cases h
theorem word_split (s z:ByteArray):s=(wordO s z).1++(wordO s z).2:=ext_cut s _
theorem org_split {names:List ByteArray} {s:ByteArray} {x:Nat×ByteArray} (h:orgO names s=some x): ∃o,names[x.1]? =some o∧s=o++x.2:=by
 unfold orgO at h
 split at h
 ·rename_i hi;cases h;exact ⟨_,ixN_at hi,word_split s sgOrg⟩
 ·cases h
theorem num_split {most:Nat} {s:ByteArray} {x:Nat×ByteArray} (h:numO most s=some x):s=dgB (x.1:Int)++x.2∧x.1≤most:=by
 unfold numO at h
 obtain ⟨n,hn,rfl⟩:=Option.map_eq_some_iff.1 h
 unfold numL at hn
 split at hn
 ·split at hn
  ·rename_i h2
   cases hn
   obtain ⟨h3,h4,h5⟩:=h2
   refine ⟨?_,by show _≤_;omega⟩
   show s=dgB _++(wordO s sgNum).2
   rw [dgB,Int.toNat_natCast,h5]
   exact word_split s sgNum
  ·cases hn
 ·cases hn
def occ (sg:List UInt8):List UInt8→Option Nat
 | []=>none
 | b::l=>if hasPrefix (b::l) sg=true then some 0 else (occ sg l).map (·+1)
theorem occ_short (sg:List UInt8): ∀l:List UInt8,l.length<sg.length→occ sg l=none
 | [],_=>rfl
 | b::l,h=>by
   have h1: ¬hasPrefix (b::l) sg=true:=fun e=>by
    have:=(List.isPrefixOf_iff_prefix.1 e).length_le
    omega
   rw [occ,if_neg h1,occ_short sg l (by rw [List.length_cons] at h;omega)];rfl
def onceF (s sg:ByteArray):ByteArray×ByteArray:=match occ sg.data.toList s.data.toList with
 | some i=>(s.extract 0 i,s.extract (i+sg.size) s.size)
 | none=>(s,⟨#[]⟩)
theorem drop_cons {s:ByteArray} {i:Nat} (h:i<s.size): ∃b,s.data.toList.drop i=b::s.data.toList.drop (i+1):=by
 have h1:i<s.data.toList.length:=by rw [ba_len];exact h
 exact ⟨_,List.drop_eq_getElem_cons h1⟩
theorem cut_is {s sg:ByteArray} {i:Nat} (h:i+sg.size≤s.size):((s.extract i (i+sg.size)).toList==sg.toList)=hasPrefix (s.data.toList.drop i) sg.data.toList:=by
 rw [bytes_beq,Bool.eq_iff_iff,decide_eq_true_eq]
 have e:(s.extract i (i+sg.size)).data.toList=(s.data.toList.drop i).take sg.size:=by
  rw [ba_extract,List.drop_take,Nat.add_sub_cancel_left]
 constructor
 ·intro h1
  refine List.isPrefixOf_iff_prefix.2 ?_
  rw [←h1,e];exact List.take_prefix _ _
 ·intro h1
  have h2:=List.prefix_iff_eq_take.1 (List.isPrefixOf_iff_prefix.1 h1)
  rw [ba_len] at h2
  exact ba_ext (e.trans h2.symm)
theorem ixN_is {s:ByteArray} : ∀ {xs:List ByteArray} {j:Nat},j≤ixN s xs→xs[j]? =some s→ixN s xs=j
 | [],j,_,h=>by cases h
 | y::l,j,h,hj=>by
   have hc:ixN s (y::l)=if s=y then 0 else ixN s l+1:=by
    rw [ixN,List.takeWhile_cons]
    by_cases e:s=y <;> simp [e,ixN]
   rw [hc] at h⊢
   by_cases e:s=y
   ·rw [if_pos e] at h⊢;omega
   ·rw [if_neg e] at h⊢
    cases j with
    | zero=>rw [List.getElem?_cons_zero] at hj;exact absurd (Option.some.inj hj).symm e
    | succ j=>rw [List.getElem?_cons_succ] at hj;rw [ixN_is (by omega) hj]
theorem ixN_not {s m:ByteArray} : ∀ {xs:List ByteArray} {j:Nat},j≤ixN s xs→xs[j]? =some m→m≠s→j+1≤ixN s xs
 | [],j,_,h,_=>by cases h
 | y::l,j,h,hj,hne=>by
   have hc:ixN s (y::l)=if s=y then 0 else ixN s l+1:=by
    rw [ixN,List.takeWhile_cons]
    by_cases e:s=y <;> simp [e,ixN]
   rw [hc] at h⊢
   by_cases e:s=y
   ·rw [if_pos e] at h
    obtain rfl:j=0:=by omega
    rw [List.getElem?_cons_zero] at hj
    exact absurd ((Option.some.inj hj).symm.trans e.symm) hne
   ·rw [if_neg e] at h⊢
    cases j with
    | zero=>omega
    | succ j=>rw [List.getElem?_cons_succ] at hj;have:=ixN_not (xs:=l) (j:=j) (by omega) hj hne;omega
theorem once_ok (M:Mem) (L:HL) (s sg:ByteArray) (hs:s.size<1000000) (h1:1≤sg.size) (h9:sg.size≤9):TrQ Tryz.prog 101 [.string s,.string sg] M L (.tuple ⟨[.string (onceF s sg).1,.string (onceF s sg).2]⟩):=by
 obtain ⟨P,hP⟩: ∃P,onceF s sg=P:=⟨_,rfl⟩
 rw [hP]
 unfold onceF at hP
 refine Tr.intro 35 Tryz.func101 rfl rfl Tryz.call101 rfl ?_;intro C hC hro
 repeat (first | refine yy ?_ | refine yx fun _=> ?_)
 refine run_loopN (fun i σ1 M1 L1=>i≤s.size∧M=M1∧L=L1∧occ sg.data.toList s.data.toList=(occ sg.data.toList (s.data.toList.drop i)).map (·+i)∧σ1= [(6,iv i),(0,.string s),(1,.string sg)]) s.size [(6,iv 0),(0,.string s),(1,.string sg)] ?_ ⟨Nat.zero_le _,rfl,rfl,by simp,rfl⟩ (fun j _ _ _ h=>h.1) ?_
 ·exact ⟨rfl,rfl,rfl,trivial⟩
 rintro i _ _ _ ⟨hi,rfl,rfl,ho,rfl⟩ hnext
 have hw:IntKind.i64.wrap ((i:Int)+(sg.size:Int))=((i+sg.size:Nat):Int):=by rw [show (i:Int)+(sg.size:Int)=((i+sg.size:Nat):Int) by omega,wrap64_nat (by omega)]
 repeat (first | refine zc ?_ | refine vq ?_)
 refine run_cond (t:=decide (((i+sg.size:Nat):Int)≤(s.size:Int))) (by show some (Value.bool (decide (IntKind.i64.wrap ((i:Int)+(sg.size:Int))≤(s.size:Int))))=_;rw [hw]) (fun h=> ?_) (fun h=> ?_)
 ·have hle:i+sg.size≤s.size:=by have:=of_decide_eq_true h;omega
  have hlt:i<s.size:=by omega
  obtain ⟨b,hb⟩:=drop_cons hlt
  have hcut:=cut_is hle
  repeat (first | refine zc ?_ | refine vq ?_ (qt_pev tok rfl))
  refine runL_as 21 (iv (i+sg.size)) rfl (congrArg (Value.int .i64) hw) ?_
  repeat (first | refine zc ?_ | refine vq ?_)
  refine run_cond (t:=hasPrefix (s.data.toList.drop i) sg.data.toList) (congrArg (fun z=>some (Value.bool z)) hcut) (fun h=> ?_) (fun h=> ?_)
  ·rw [hb,occ,if_pos (by rw [←hb];exact h)] at ho
   have ho:occ sg.data.toList s.data.toList=some i:=by rw [ho];simp
   rw [ho] at hP
   repeat (first | refine yy ?_ | refine yx fun _=> ?_)
   refine dd ?_
   iterate 8 refine yd ?_
   refine pr_as 32 (iv (i+sg.size)) rfl (congrArg (Value.int .i64) hw) ?_
   repeat (first | refine yy ?_ | refine dd ?_ | refine yd ?_ | refine yx fun _=> ?_)
   exact run_ret hC (rs:= [.tmp 4,.tmp 5]) rfl (resT rfl (resT rfl resN)) (fun _ h=>h) ⟨by rw [←hP];rfl,rfl,rfl⟩
  ·repeat (first | refine yy ?_ | refine yx fun _=> ?_)
   refine run_sub' (hnext _ _ _ ⟨hlt,rfl,rfl, ?_,rfl⟩) ⟨lk_succ rfl (by omega),rfl,rfl,trivial⟩
   rw [ho,hb,occ,if_neg (by rw [←hb,h];decide),Option.map_map]
   congr 1
   funext n
   show n+1+i=n+(i+1)
   omega
 ·have hgt: ¬i+sg.size≤s.size:=by have:=of_decide_eq_false h;omega
  rw [occ_short _ (s.data.toList.drop i) (by rw [List.length_drop,ba_len,ba_len];omega)] at ho
  have ho:occ sg.data.toList s.data.toList=none:=ho
  rw [ho] at hP
  repeat (first | refine yy ?_ | refine yx fun _=> ?_)
  exact run_ret hC (rs:= [.tmp 4,.tmp 5]) rfl (resT rfl (resT rfl resN)) (fun _ h=>h) ⟨by rw [←hP];rfl,rfl,rfl⟩
def orgR (names:List ByteArray) (s:ByteArray):Nat:=if ixN s names<names.length then ixN s names else 0
theorem rorg_ok (M:Mem) (L:HL) (S:SStr) (hS:StOk M S) (s:ByteArray):TrQ Tryz.prog 102 [S.v,.string s] M L (iv (orgR S.xs s)):=by
 have hl:=hS.len
 have h6:=hS.2
 have h0:=hS.1
 obtain ⟨a,n,c,xs⟩:=S
 simp only [SStr.v] at*
 refine Tr.intro 19 Tryz.func102 rfl rfl Tryz.call102 rfl ?_;intro C hC hro
 repeat (first | refine yy ?_ | refine yx fun _=> ?_)
 refine run_loopN (fun j σ1 M1 L1=>j≤n∧M=M1∧L=L1∧j≤ixN s xs∧σ1= [(5,iv j),(0,.slice a n c),(1,.string s)]) n [(5,iv 0),(0,.slice a n c),(1,.string s)] ?_ ⟨Nat.zero_le _,rfl,rfl,Nat.zero_le _,rfl⟩ (fun j _ _ _ h=>h.1) ?_
 ·exact ⟨rfl,rfl,rfl,trivial⟩
 rintro j _ _ _ ⟨hj,rfl,rfl,hix,rfl⟩ hnext
 repeat (first | refine yy ?_ | refine yx fun _=> ?_)
 refine run_cond (t:=decide ((j:Int)<(n:Int))) rfl (fun h=> ?_) (fun h=> ?_)
 ·have hlt:j<n:=by have:=of_decide_eq_true h;omega
  obtain ⟨b,off,m,rfl,hm,hc⟩:=SStr.at_ h0 hlt
  repeat (first | refine yy ?_ | refine yx fun _=> ?_)
  refine run_cond (t:=decide (m=s)) (by show some (Value.bool (m.toList==s.toList))=_;rw [bytes_beq]) (fun h=> ?_) (fun h=> ?_)
  ·have he:=of_decide_eq_true h
   subst he
   have hi:ixN m xs=j:=ixN_is hix hm
   have hr:orgR xs m=j:=by rw [orgR,hi,if_pos (by omega)]
   repeat (first | refine yy ?_ | refine yx fun _=> ?_)
   exact run_ret hC (rs:= [.tmp 4]) rfl (resT rfl resN) (fun _ h=>h) ⟨by rw [hr];rfl,rfl,rfl⟩
  ·have he:=of_decide_eq_false h
   repeat (first | refine yy ?_ | refine yx fun _=> ?_)
   exact run_sub' (hnext _ _ _ ⟨hlt,rfl,rfl,ixN_not hix hm he,rfl⟩) ⟨lk_succ rfl (by omega),rfl,rfl,trivial⟩
 ·have hge:j=n:=by have:=of_decide_eq_false h;omega
  have hr:orgR xs s=0:=by rw [orgR,if_neg (by omega)]
  repeat (first | refine yy ?_ | refine yx fun _=> ?_)
  exact run_ret hC (rs:= [.tmp 4]) rfl (resT rfl resN) (fun _ h=>h) ⟨by rw [hr];rfl,rfl,rfl⟩
def atR (l:List ByteArray) (k:Nat):ByteArray:=(l[k]?).getD ⟨#[]⟩
theorem rat_ok (M:Mem) (L:HL) (S:SStr) (hS:StOk M S) (k:Nat) (hk:k<1000000):TrQ Tryz.prog 132 [S.v,iv k] M L (.string (atR S.xs k)):=by
 have hl:=hS.len
 have h0:=hS.1
 obtain ⟨a,n,c,xs⟩:=S
 simp only [SStr.v] at*
 refine Tr.intro 13 Tryz.func132 rfl rfl Tryz.call132 rfl ?_;intro C hC hro
 repeat (first | refine yy ?_ | refine yx fun _=> ?_)
 refine run_cond (t:=decide ((k:Int)≥(n:Int))) rfl (fun h=> ?_) (fun h=> ?_)
 ·have hr:atR xs k=⟨#[]⟩:=by rw [atR,List.getElem?_eq_none (by have:=of_decide_eq_true h;omega)];rfl
  repeat (first | refine yy ?_ | refine yx fun _=> ?_)
  exact run_ret hC (rs:= [.tmp 4]) rfl (resT rfl resN) (fun _ h=>h) ⟨by rw [hr];rfl,rfl,rfl⟩
 ·have hlt:k<n:=by have:=of_decide_eq_false h;omega
  obtain ⟨b,off,m,rfl,hm,hc⟩:=SStr.at_ h0 hlt
  have hr:atR xs k=m:=by rw [atR,hm];rfl
  repeat (first | refine yy ?_ | refine yx fun _=> ?_)
  exact run_ret hC (rs:= [.tmp 4]) rfl (resT rfl resN) (fun _ h=>h) ⟨by rw [hr];rfl,rfl,rfl⟩
end Go.Proofs.YtladcmfbkiogbaaGreatDoor
