import Derived.Test.YtladcmfbkiogbaaGreatDoorBRE
import Derived.Test.YtladcmfbkiogbaaGreatDoorBRD
import Derived.Test.YtladcmfbkiogbaaGreatDoorBRB
import Derived.Test.YtladcmfbkiogbaaGreatDoorBRA
import Derived.Test.YtladcmfbkiogbaaGreatDoorBRC
import Derived.KernelRfl
import Derived.Test.YtladcmfbkiogbaaGreatDoorRows
import Derived.ChangeMaps5
import Derived.Lib.LaidTab
import Derived.LaidLaws
set_option maxHeartbeats 64000000
set_option linter.all false
namespace Go.Proofs.YtladcmfbkiogbaaGreatDoor
open Go.Chi Go.Lib
set_option maxRecDepth 10000
def lnsT (names:List ByteArray):List Aa→Option ByteArray
 | []=>some ⟨#[]⟩
 | a::l=>if (lineA names a).2=0 then (lnsT names l).map fun t=>((lineA names a).1++nlB)++t else none
def linesA (names:List ByteArray) (l:List Aa):ByteArray×Int:=
 if rollB names=true then match lnsT names l with
   | none=>(⟨#[]⟩,2)
   | some t=>if t.size≤262144 then (t,0)else (⟨#[]⟩,5)
 else (⟨#[]⟩,2)
theorem nlN_app {u:List UInt8} (r:List UInt8) (h: ∀b∈u,b≠10):nlN (u++10::r)=u.length:=by
 unfold nlN
 induction u with
 | nil=>rfl
 | cons b u ih=>
   have hb:(b !=10)=true:=by simpa using h b List.mem_cons_self
   rw [List.cons_append,List.takeWhile_cons,if_pos hb,List.length_cons,ih fun c hc=>h c (List.mem_cons_of_mem _ hc),List.length_cons]
theorem cutR_app {u r:ByteArray} (h:N10 u):cutR ((u++nlB)++r)=(u,r,true):=by
 have h1:nlN ((u++nlB)++r).data.toList=u.size:=by
  rw [app_assoc,app_list,app_list,←ba_len u];exact nlN_app _ h
 have h2:(u++nlB).size=u.size+1:=by rw [app_size];rfl
 rw [cutR,h1,if_pos (by rw [app_size,h2];omega),←h2,ext_right,app_assoc,ext_left]
theorem nl_split: ∀ {l:List UInt8},nlN l<l.length→l=l.take (nlN l)++10::l.drop (nlN l+1)
 | [],h=>absurd h (by decide)
 | b::l,h=>by
   have hn:nlN (b::l)=if b=10 then 0 else nlN l+1:=by
    unfold nlN
    rw [List.takeWhile_cons]
    by_cases h:b=10 <;> simp [h]
   rw [hn] at h⊢
   by_cases hb:b=10
   ·rw [if_pos hb,hb];rfl
   ·rw [if_neg hb] at h⊢
    rw [List.take_succ_cons,List.drop_succ_cons,List.cons_append,←nl_split (l:=l) (by simpa using h)]
theorem cutR_back {s:ByteArray} (h:(cutR s).2.2=true):s=((cutR s).1++nlB)++(cutR s).2.1:=by
 unfold cutR at h⊢
 split at h
 ·rename_i hn
  rw [if_pos hn]
  apply ba_ext
  have h1:=nl_split (l:=s.data.toList) (by rw [ba_len];exact hn)
  rw [app_list,app_list,ba_extract,ba_extract,List.drop_zero,List.append_assoc,List.take_of_length_le (i:=s.size) (Nat.le_of_eq (ba_len s))]
  exact h1
 ·cases h
theorem lines_lnO {names:List ByteArray} : ∀ {l:List Aa} {t:ByteArray} (k n:Nat),(∀a∈l,∀m∈a.gives,m.digest.size<1000000)→lnsT names l=some t→t.size≤k→lnO names k n t= .inr l
 | [],t,k,n,_,h,_=>by
   cases h
   cases k with
   | zero=>rfl
   | succ k=>rw [lnO,if_pos rfl]
 | a::l,t,k,n,hd,h,hk=>by
   rw [lnsT] at h
   split at h
   rotate_left
   ·cases h
   rename_i ha
   obtain ⟨u,hu,rfl⟩:=Option.map_eq_some_iff.1 h
   have hz:(((lineA names a).1++nlB)++u).size=(lineA names a).1.size+1+u.size:=by rw [app_size,app_size];rfl
   obtain ⟨k,rfl⟩: ∃j,k=j+1:=⟨k-1,by omega⟩
   have hda:=hd a List.mem_cons_self
   have hne:((lineA names a).1++nlB)++u≠⟨#[]⟩:=fun e=>by
    rw [e] at hz
    have h0:(⟨#[]⟩:ByteArray).size=0:=rfl
    omega
   rw [lnO,if_neg hne,cutR_app (lineA_10 ha hda)]
   dsimp only
   rw [line_back_ ha hda,if_pos ⟨rfl,rfl⟩,lines_lnO k (n+1) (fun b hb=>hd b (List.mem_cons_of_mem _ hb)) hu (by omega)]
theorem lines_read {names:List ByteArray} {l:List Aa} (hd: ∀a∈l,∀m∈a.gives,m.digest.size<1000000) (h:(linesA names l).2=0):readA names (linesA names l).1=(l,0,0):=by
 unfold linesA at h⊢
 split at h
 rotate_left
 ·cases h
 rename_i hn
 rw [if_pos hn]
 cases ht:lnsT names l with
 | none=>rw [ht] at h;cases h
 | some t=>
   rw [ht] at h
   dsimp only at h⊢
   split at h
   rotate_left
   ·cases h
   rename_i hz
   rw [if_pos hz,readA,if_pos hn,if_pos hz,lines_lnO _ 1 hd ht (Nat.le_refl _)]
theorem lnO_lines {names:List ByteArray} : ∀(k n:Nat) {s:ByteArray} {l:List Aa},s.size≤k→lnO names k n s= .inr l→lnsT names l=some s
 | 0,n,s,l,hk,h=>by
   cases h
   rw [ba_nil (by omega:s.size=0)];rfl
 | k+1,n,s,l,hk,h=>by
   rw [lnO] at h
   split at h
   ·rename_i h0
    cases h
    rw [h0];rfl
   rename_i h0
   split at h
   rotate_left
   ·cases h
   rename_i h1
   cases h2:lnO names k (n+1) (cutR s).2.1 with
   | inl m=>rw [h2] at h;cases h
   | inr l'=>
     rw [h2] at h
     cases h
     have:=(cutR_sz s h0).2
     have h3:=lnO_lines k (n+1) (by omega) h2
     have h4:=parse_line h1.2
     rw [lnsT,h4,if_pos rfl,h3,Option.map_some,←cutR_back h1.1]
theorem read_lines {names:List ByteArray} {s:ByteArray} (h:(readA names s).2.2=0):linesA names (readA names s).1=(s,0):=by
 unfold readA at h⊢
 split at h
 rotate_left
 ·cases h
 rename_i hn
 rw [if_pos hn]
 split at h
 rotate_left
 ·cases h
 rename_i hz
 rw [if_pos hz]
 cases h2:lnO names s.size 1 s with
 | inl m=>rw [h2] at h;cases h
 | inr l=>rw [linesA,if_pos hn,lnO_lines _ 1 (Nat.le_refl _) h2];exact if_pos hz
def cutB:List UInt8→List UInt8→List (List UInt8)×List UInt8
 | [],cur=>([],cur)
 | b::l,cur=>if b=10 then (cur::(cutB l []).1,(cutB l []).2)else cutB l (cur++ [b])
theorem cutB_eq: ∀(l cur:List UInt8),cutB l cur=if nlN l<l.length then ((cur++l.take (nlN l))::(cutB (l.drop (nlN l+1)) []).1,(cutB (l.drop (nlN l+1)) []).2)else ([],cur++l)
 | [],cur=>by rw [cutB,if_neg (by decide),List.append_nil]
 | b::l,cur=>by
   have hn:nlN (b::l)=if b=10 then 0 else nlN l+1:=by
    unfold nlN
    rw [List.takeWhile_cons]
    by_cases h:b=10 <;> simp [h]
   rw [cutB,hn]
   by_cases hb:b=10
   ·rw [if_pos hb,if_pos hb,if_pos (by simp),List.take_zero,List.append_nil];rfl
   ·rw [if_neg hb,if_neg hb,cutB_eq l (cur++ [b]),List.length_cons,List.take_succ_cons,List.drop_succ_cons,List.append_assoc,List.append_assoc]
    by_cases h:nlN l<l.length
    ·rw [if_pos h,if_pos (by omega)];rfl
    ·rw [if_neg h,if_neg (by omega)];rfl
def rdD (names:List ByteArray):Nat→List ByteArray→ByteArray→Nat ⊕ List Aa
 | n,[],rest=>if rest=⟨#[]⟩then .inr [] else .inl n
 | n,x::xs,rest=>if (parseA names x).2=0 then match rdD names (n+1) xs rest with
    | .inl m=> .inl m
    | .inr l=> .inr ((parseA names x).1::l)
   else .inl n
theorem bs_list (s:ByteArray):bs s.data.toList=s:=ba_ext rfl
theorem rdD_eq {names:List ByteArray} : ∀(k n:Nat) (s:ByteArray),s.size≤k→rdD names n ((cutB s.data.toList []).1.map bs) (bs (cutB s.data.toList []).2)=lnO names k n s
 | 0,n,s,hk=>by
   rw [ba_nil (by omega:s.size=0)];rfl
 | k+1,n,s,hk=>by
   by_cases h0:s=⟨#[]⟩
   ·subst h0
    rw [lnO,if_pos rfl];rfl
   rw [lnO,if_neg h0,cutB_eq,ba_len]
   have hz:=(cutR_sz s h0).2
   by_cases h:nlN s.data.toList<s.size
   ·have hc:cutR s=(s.extract 0 (nlN s.data.toList),s.extract (nlN s.data.toList+1) s.size,true):=by rw [cutR,if_pos h]
    rw [hc] at hz⊢
    dsimp only at hz
    have e1:bs ([]++s.data.toList.take (nlN s.data.toList))=s.extract 0 (nlN s.data.toList):=by
     apply ba_ext
     rw [ba_extract,List.drop_zero];rfl
    have e2:s.data.toList.drop (nlN s.data.toList+1)=(s.extract (nlN s.data.toList+1) s.size).data.toList:=by rw [ba_extract,List.take_of_length_le (i:=s.size) (Nat.le_of_eq (ba_len s))]
    rw [if_pos h,List.map_cons,rdD,e1,e2]
    dsimp only
    rw [rdD_eq k (n+1) _ (by omega)]
    by_cases hp:(parseA names (s.extract 0 (nlN s.data.toList))).2=0
    ·rw [if_pos hp,if_pos ⟨rfl,hp⟩]
     cases lnO names k (n+1) (s.extract (nlN s.data.toList+1) s.size) <;> rfl
    ·rw [if_neg hp,if_neg fun h=>hp h.2]
   ·have hc:cutR s=(s,⟨#[]⟩,false):=by rw [cutR,if_neg h]
    rw [if_neg h,hc,List.nil_append,bs_list]
    dsimp only
    rw [if_neg (by simp)]
    show (if s=⟨#[]⟩then _ else _)=_
    rw [if_neg h0]
open Go.Chi
section
variable {C:Cx} {n:Nat} {k:List Item} {ds:List Deferred} {σ:Env} {δ:Den} {M:Mem} {L:HL} {ops:Array Oper} {D X:List Nat} {d:Nat} {op:Op} {ty:TypeId} {pos:String} {aft:Array Edge} {v:Value} {f:FuncId} {args:Array Operand} {tys:Array TypeId} {vs:List Value} {K:Value→Mem→HL→Prop} {qs:List Nat}
theorem qqx (i:Nat) (h:PR Tryz.prog C n ops k ds (i::D) X ((d,v)::σ) δ M L) (ho:ops[i]? =some ⟨some d,op,ty,pos,aft,none⟩:=by exact rfl) (hst:Qt Tryz.prog C.b.roundOf ⟨some d,op,ty,pos,aft,none⟩ σ δ [] M L v:=by first | refine qt_pev tok rfl | refine ql tok rfl | refine qt_indexN tok rfl rfl rfl rfl (fun hy=>by first | assumption | omega | (have h0:=hy.1;simp at h0;omega)) | refine qt_index tok rfl rfl rfl rfl (fun _=>by decide) | refine qt_ldM tok rfl (by first | assumption | exact Cells.le (by assumption) (by assumption)) rfl | refine qt_ldM0 tok rfl (by first | assumption | exact Cells.le (by assumption) (by assumption)) rfl | refine qt_strIndex tok rfl rfl rfl (fun _=>by assumption) | refine qt_strIndex (n:=0) tok rfl rfl rfl (fun _=>by assumption) | refine qt_strLo tok rfl rfl rfl (fun hy=>by first | assumption | omega | (have h0:=hy.1;simp at h0;omega)) | refine qt_strHi tok rfl rfl rfl (fun hy=>by first | assumption | omega | (have h0:=hy.1;simp at h0;omega)) | refine qt_strMid tok rfl rfl rfl rfl (fun hy=>by first | assumption | omega | (have h0:=hy.1;simp at h0;omega)) | refine qt_concat rfl rfl (by first | assumption | omega | (simp only [app_size] at*;omega)) | refine qt_shr rfl rfl (fun _=>by decide) | refine qt_makeIfaceC tok rfl rfl rfl | refine qt_assertC tok rfl rfl rfl | refine qt_assertCk tok rfl rfl rfl) (hchk:chkQ ops D i=true:=by decide+kernel) (hd:Nat.blt d n=true:=by exact rfl) (hn:lkd δ d=none:=by exact rfl) (hu:unNamed δ d=true:=by exact rfl):PR Tryz.prog C n ops k ds D X σ δ M L:=pr_q i hchk ho hst hd hn hu h
theorem qqc (i:Nat) (ht:TrQ Tryz.prog f vs M L v) (h:PR Tryz.prog C n ops k ds (i::D) X ((d,v)::σ) δ M L) (ho:ops[i]? =some ⟨some d,.call ⟨.value (.func f),args,tys⟩,ty,pos,aft,none⟩:=by exact rfl) (ha:evs σ δ [] args.toList=some vs:=by exact rfl) (hchk:chkQ ops D i=true:=by decide+kernel) (hd:Nat.blt d n=true:=by exact rfl) (hn:lkd δ d=none:=by exact rfl) (hu:unNamed δ d=true:=by exact rfl):PR Tryz.prog C n ops k ds D X σ δ M L:=pr_q i hchk ho (qt_callF ha fun _=>ht) hd hn hu h
end
theorem ppx {A B:Prop} (h:B) (hp:A:=by (repeat (first | exact trivial | refine And.intro (pend_q rfl rfl rfl (by first | refine qt_pev tok rfl | refine ql tok rfl | refine qt_indexN tok rfl rfl rfl rfl (fun hy=>by first | assumption | omega | (have h0:=hy.1;simp at h0;omega)) | refine qt_index tok rfl rfl rfl rfl (fun _=>by decide) | refine qt_ldM tok rfl (by first | assumption | exact Cells.le (by assumption) (by assumption)) rfl | refine qt_ldM0 tok rfl (by first | assumption | exact Cells.le (by assumption) (by assumption)) rfl | refine qt_strIndex tok rfl rfl rfl (fun _=>by assumption) | refine qt_strIndex (n:=0) tok rfl rfl rfl (fun _=>by assumption) | refine qt_strLo tok rfl rfl rfl (fun hy=>by first | assumption | omega | (have h0:=hy.1;simp at h0;omega)) | refine qt_strHi tok rfl rfl rfl (fun hy=>by first | assumption | omega | (have h0:=hy.1;simp at h0;omega)) | refine qt_strMid tok rfl rfl rfl rfl (fun hy=>by first | assumption | omega | (have h0:=hy.1;simp at h0;omega)) | refine qt_concat rfl rfl (by first | assumption | omega | (simp only [app_size] at*;omega)) | refine qt_shr rfl rfl (fun _=>by decide) | refine qt_makeIfaceC tok rfl rfl rfl | refine qt_assertC tok rfl rfl rfl | refine qt_assertCk tok rfl rfl rfl)) ?_))):A∧B:=⟨hp,h⟩
theorem rnum_ok (M:Mem) (L:HL) (hG:G38 M) (n:Int) (h0:0≤n) (h1:n≤9223372036854775807):TrQ Tryz.prog 38 [.int .i64 n] M L (.string (dgB n)):=by
 have hi:=fun L=>itoa_ok M L n.toNat (by omega) hG
 rw [Int.toNat_of_nonneg h0] at hi
 refine Tr.intro 5 Tryz.func38 rfl rfl Tryz.call38 rfl ?_;intro C hC hro
 repeat (first | refine yy ?_ | refine yx fun _=> ?_ | refine qc (hi _) ?_)
 exact run_ret hC (rs:= [.tmp 2]) rfl (resT rfl resN) (fun _ h=>h) ⟨rfl,rfl,rfl⟩
theorem rnums_ok (M:Mem) (L:HL) (hG:G38 M) (w:ByteArray) (p:SIn) (hp:InOk M p) (hall: ∀v∈p.xs,nmW v=true) (hw:w.size≤1000) (h32:p.xs.length≤32):TrQ Tryz.prog 118 [.string w,p.v] M L (.string (w++rwB p.xs)):=by
 have l1:=hp.len
 have n1:=hp.2
 obtain ⟨pa,pl,pc,px⟩:=p
 simp only [SIn.v] at*
 refine Tr.intro 21 Tryz.func118 rfl rfl Tryz.call118 rfl ?_;intro C hC hro
 repeat (first | refine yy ?_ | refine yx fun _=> ?_)
 refine run_loopN (fun j σ1 M1 L1=>j≤pl∧M=M1∧L=L1∧σ1= [(5,iv j),(0,.string (w++rwB (px.take j))),(1,.slice pa pl pc)]) pl [(5,iv 0),(0,.string (w++rwB (px.take 0))),(1,.slice pa pl pc)] ?_ ⟨Nat.zero_le _,rfl,rfl,rfl⟩ (fun j _ _ _ h=>h.1) ?_
 ·exact ⟨rfl,by rw [List.take_zero,rwB,app_nil];rfl,rfl,trivial⟩
 rintro j _ _ _ ⟨hj,rfl,rfl,rfl⟩ hnext
 repeat (first | refine yy ?_ | refine yx fun _=> ?_)
 refine run_cond (t:=decide ((j:Int)<(pl:Int))) rfl (fun h=> ?_) (fun h=> ?_)
 ·have hlt:j<pl:=by have:=of_decide_eq_true h;omega
  obtain ⟨b,off,m,rfl,hm,hc⟩:=SIn.at_ hp.1 hlt
  have hmw:=nIn (hall m (List.mem_of_getElem? hm))
  have z1:=rwB_sz (l:=px.take j) fun v hv=>hall v (List.mem_of_mem_take hv)
  have z2:(px.take j).length≤32:=by rw [List.length_take];omega
  have z3:=dgB_sz (n:=m) (by omega)
  have h1s:sp1.size=1:=rfl
  have hcc:(w++rwB (px.take j)).size+sp1.size<4611686018427387904:=by rw [app_size];omega
  have hcc2:((w++rwB (px.take j))++sp1).size+(dgB m).size<4611686018427387904:=by rw [app_size,app_size];omega
  repeat (first | refine yy ?_ | refine yx fun _=> ?_ | refine qc (rnum_ok _ _ hG m hmw.1 (by omega)) ?_ | refine vq ?_ (qt_concat rfl rfl hcc) | refine vq ?_ (qt_concat rfl rfl hcc2))
  refine run_sub' (hnext _ _ _ ⟨hlt,rfl,rfl,rfl⟩) ⟨lk_succ rfl (by omega), ?_,rfl,trivial⟩
  rw [take_snoc hm,rwB_app,show rwB [m]=sp1++dgB m from app_nil _,←app_assoc,←app_assoc]
  rfl
 ·have hge:j=pl:=by have:=of_decide_eq_false h;omega
  subst hge
  rw [List.take_of_length_le (by omega)]
  repeat (first | refine yy ?_ | refine yx fun _=> ?_)
  exact run_ret hC (rs:= [.tmp 4]) rfl (resT rfl resN) (fun _ h=>h) ⟨rfl,rfl,rfl⟩
theorem numsL_ok (M:Mem) (L:HL) (hG:G38 M) (w:ByteArray) (b n:Nat) (xs:List Int) (cs:List Value) (hcs:cs=xs.map (Value.int .i64)) (hm:(b,Obj.cells ⟨cs⟩ 3 (0,0))∈L) (hn:n=xs.length) (hall: ∀v∈xs,nmW v=true) (hw:w.size≤1000) (h32:xs.length≤32):
 TrQ Tryz.prog 118 [.string w,.slice (some ⟨b,0,none⟩) n n] M L (.string (w++rwB xs)):=
 TrQ.lend (fun w=>Tryz.call118 _ w) fun M' hm' hb=>by
  have hs:InOk M' ⟨some ⟨b,0,none⟩,n,n,xs⟩:=⟨by
   have:=SlM.ofBlk (size:=1) (ls:=xs.map inC) (hb _ _ hm) (by
    rw [hcs];clear hcs hm hb hn hall h32
    induction xs with
    | nil=>rfl
    | cons x l ih=>rw [List.map_cons,List.map_cons,List.flatten_cons,←ih];rfl) (fun c hc=>by obtain ⟨x,_,rfl⟩:=List.mem_map.1 hc;rfl)
   rw [List.length_map,←hn] at this
   exact this,by show n<1000000;omega⟩
  exact rnums_ok M' [] (hG.le hm') w _ hs hall hw h32
theorem rtxn_ok (M:Mem) (L:HL) (hG:G38 M) (S:SStr) (hS:StOk M S) (hz: ∀x∈S.xs,x.size<1000000) (t:Tx) (h0:0≤t.coord∧t.coord<(S.xs.length:Int)) (h1:0≤t.epoch∧t.epoch≤9223372036854775807) (h2:0≤t.seq∧t.seq≤9223372036854775807):TrQ Tryz.prog 40 [S.v,.agg ⟨txC t⟩] M L (.string (txnT S.xs t)):=by
 have hl:=hS.len
 have hd1:=dgB_sz h1.2
 have hd2:=dgB_sz h2.2
 obtain ⟨k,hk⟩:=Int.eq_ofNat_of_zero_le h0.1
 have hlt:k<S.len:=by omega
 obtain ⟨b,off,x,ha,hx,hc⟩:=SStr.at_ hS.1 hlt
 have hxz:=hz x (List.mem_of_getElem? hx)
 have hnt:nameT S.xs t.coord=x:=by rw [nameT,hk,Int.toNat_natCast,hx];rfl
 obtain ⟨sa,sn,sc,xs⟩:=S
 obtain ⟨tc,te,ts⟩:=t
 simp only at*
 subst ha hk
 have h1s:slB.size=1:=rfl
 have q1:x.size+slB.size<4611686018427387904:=by omega
 have q2:(x++slB).size+(dgB te).size<4611686018427387904:=by rw [app_size];omega
 have q3:((x++slB)++dgB te).size+slB.size<4611686018427387904:=by rw [app_size,app_size];omega
 have q4:(((x++slB)++dgB te)++slB).size+(dgB ts).size<4611686018427387904:=by rw [app_size,app_size,app_size];omega
 have he:txnT xs ⟨k,te,ts⟩=(((x++slB)++dgB te)++slB)++dgB ts:=by rw [txnT,hnt];simp only [app_assoc]
 rw [he]
 refine Tr.intro 20 Tryz.func40 rfl rfl Tryz.call40 rfl ?_;intro C hC hro
 repeat (first | refine yy ?_ | refine dd ?_ | refine yd ?_ | refine yx fun _=> ?_ | refine pc (rnum_ok _ _ hG te h1.1 h1.2) ?_ | refine pc (rnum_ok _ _ hG ts h2.1 h2.2) ?_ | refine pq rfl (qt_concat rfl rfl q1) ?_ | refine pq rfl (qt_concat rfl rfl q2) ?_ | refine pq rfl (qt_concat rfl rfl q3) ?_ | refine pq rfl (qt_concat rfl rfl q4) ?_)
 exact run_ret hC (rs:= [.tmp 4]) rfl (resT rfl resN) (fun _ h=>h.drop) ⟨rfl,rfl,rfl⟩
def bareR (x:Sr):Sr:=⟨x.do_,(bareN x.sp).a,(bareN x.sp).b,(bareN x.sp).c,(bareN x.sp).n,if x.do_=2 then x.text else ⟨#[]⟩,if x.do_=6 then x.list else ⟨none,0,0,[]⟩⟩
theorem bareR_sp (x:Sr):(bareR x).sp=bareP x.sp:=by
 unfold bareR bareP Sr.sp
 simp only
 congr 1
 split <;> rfl
theorem bareR_ok {M:Mem} {x:Sr} (hx:SrOk M x):SrOk M (bareR x):=by
 refine ⟨?_, ?_⟩
 ·unfold bareR
  simp only
  split
  ·exact hx.list
  ·exact ⟨⟨rfl,(fun _ h=>by cases h),.inl rfl⟩,by show (0:Nat)<1000000;decide⟩
 ·unfold bareR
  simp only
  split
  ·exact hx.text
  ·show (0:Nat)<_;decide
theorem lineE_sz {t:ByteArray} (ht:t.size<1000000):(lineE t).1.size≤1376256:=by
 unfold lineE
 by_cases h0:mayB t=true
 ·rw [if_pos h0]
  obtain ⟨hT,hz2⟩:=(mayB_iff (by omega)).1 h0
  have:=line_size 16 (Nat.le_refl _) t hT (by omega)
  generalize lineB 16 t=u at*
  exact Nat.le_trans this (by omega)
 ·rw [if_neg h0];exact Nat.zero_le _
theorem refStep_ok (M:Mem) (L:HL) (hG:G38 M) (x:Sr) (hx:SrOk M x) (hp:SpP x.sp):TrQ Tryz.prog 79 [.agg ⟨srC x⟩] M L (.tuple ⟨[.string (stepT x.sp),.agg ⟨srC (bareR x)⟩]⟩):=by
 have ha:=hp.a
 have hb:=hp.b
 have hc:=hp.c
 have hn:=hp.n
 have h1d:=hp.do_
 have hlist:=hp.list
 have h32:=hp.len
 have htx:x.text.size≤1024:=hp.text
 have hIn:=hx.list
 obtain ⟨d,a,b,c,n,tx,li⟩:=x
 simp only [Sr.sp] at ha hb hc hn h1d hlist h32 htx hIn
 have h9:d=1∨d=2∨d=3∨d=4∨d=5∨d=6∨d=7∨d=8∨d=9:=by omega
 have one: ∀(v:Int),nmW v=true→ ∀u∈ [v],nmW u=true:=fun v h u hu=>by obtain rfl:=List.mem_singleton.1 hu;exact h
 have two: ∀(v w:Int),nmW v=true→nmW w=true→ ∀u∈ [v,w],nmW u=true:=fun v w h h' u hu=>by
  rcases List.mem_cons.1 hu with rfl | hu
  ·exact h
  ·exact one w h' u hu
 have three: ∀(v w z:Int),nmW v=true→nmW w=true→nmW z=true→ ∀u∈ [v,w,z],nmW u=true:=fun v w z h h' h'' u hu=>by
  rcases List.mem_cons.1 hu with rfl | hu
  ·exact h
  ·exact two w z h' h'' u hu
 have fs1: ∀(x:Sp) (o:Nat),fsB x [o]=rwB [getF x o]:=fun _ _=>rfl
 have fs2: ∀(x:Sp) (o o2:Nat),fsB x [o,o2]=rwB [getF x o,getF x o2]:=fun _ _ _=>rfl
 have fs3: ∀(x:Sp) (o o2 o3:Nat),fsB x [o,o2,o3]=rwB [getF x o,getF x o2,getF x o3]:=fun _ _ _ _=>rfl
 rcases h9 with rfl | rfl | rfl | rfl | rfl | rfl | rfl | rfl | rfl
 ·have he:stepT ⟨1,a,b,c,n,tx,li.xs⟩=wSeen++rwB [n]:=app_nil _
  simp only [Sr.sp]
  rw [he]
  refine Tr.intro 135 Tryz.func79 rfl rfl Tryz.call79 rfl ?_;intro C hC hro
  repeat (first | refine yy ?_ | refine yx fun _=> ?_ | refine run_cond (t:=true) rfl (fun _=> ?_) (fun h=>by cases h) | refine run_cond (t:=false) rfl (fun h=>by cases h) (fun _=> ?_))
  refine dd ?_
  refine qqx 0 ?_
  refine qqx 1 ?_
  refine qqx 4 ?_
  refine qqx 5 ?_
  refine qqx 6 ?_
  refine qqx 7 ?_
  refine qqx 8 ?_
  refine pr_one 2 (by decide+kernel) (eff1 2 rfl (st_buildSlice tok rfl rfl rfl rfl rfl rfl rfl) (by decide+kernel) rfl rfl rfl rfl ?_)
  rintro _ _ _ ⟨bl,rfl,rfl,rfl⟩
  refine ppx ?_
  refine qqc 3 (numsL_ok _ _ hG wSeen _ 1 [n] _ rfl List.mem_cons_self rfl (one _ hn) (by decide) (show 1≤32 by decide)) ?_
  refine pr_one 9 (by decide+kernel) (eff1 9 rfl (qt_pev tok rfl) (by decide+kernel) rfl rfl rfl rfl ?_)
  rintro _ _ _ ⟨rfl,rfl,rfl⟩
  refine ppx ?_
  refine pr_one 10 (by decide+kernel) (eff0 10 rfl (sst tok rfl rfl rfl rfl rfl) (by decide+kernel) rfl ?_)
  rintro _ _ _ ⟨rfl,rfl,rfl⟩
  refine ppx ?_
  refine pr_end (by decide+kernel) (by decide+kernel) ?_
  repeat (first | refine yy ?_ | refine yx fun _=> ?_)
  exact run_ret hC (rs:= [.tmp 2,.cell 3 60]) rfl (resT rfl (rl tok rfl resN)) (fun _ h=>h.drop.drop.drop) ⟨rfl,rfl,rfl⟩
 ·have hdz:=dataE_sz (s:=tx)
  have he:stepT ⟨2,a,b,c,n,tx,li.xs⟩=(wData++sp1)++(lineE (dataE tx).1).1:=by
   show ((wData++⟨#[]⟩)++(sp1++_))=_
   rw [app_nil,←app_assoc]
  have hq:=fun L=>refLine_ok M L (dataE tx).1 (by omega)
  have hlz:=lineE_sz (t:=(dataE tx).1) (by omega)
  simp only [Sr.sp]
  rw [he]
  clear he
  generalize lineE (dataE tx).1=e at*
  have hcc:(wData++sp1).size+e.1.size<4611686018427387904:=by show 5+_<_;omega
  refine Tr.intro 135 Tryz.func79 rfl rfl Tryz.call79 rfl ?_;intro C hC hro
  repeat (first | refine yy ?_ | refine dd ?_ | refine yd ?_ | refine yx fun _=> ?_ | refine run_cond (t:=true) rfl (fun _=> ?_) (fun h=>by cases h) | refine run_cond (t:=false) rfl (fun h=>by cases h) (fun _=> ?_) | refine qc (refData_ok _ _ tx (by omega)) ?_ | refine qc (hq _) ?_ | refine pq rfl (qt_concat rfl rfl hcc) ?_)
  exact run_ret hC (rs:= [.tmp 2,.cell 3 60]) rfl (resT rfl (rl tok rfl resN)) (fun _ h=>h.drop.drop) ⟨rfl,rfl,rfl⟩
 ·have he:stepT ⟨3,a,b,c,n,tx,li.xs⟩=wPart++rwB [a,n]:=app_nil _
  simp only [Sr.sp]
  rw [he]
  refine Tr.intro 135 Tryz.func79 rfl rfl Tryz.call79 rfl ?_;intro C hC hro
  repeat (first | refine yy ?_ | refine yx fun _=> ?_ | refine run_cond (t:=true) rfl (fun _=> ?_) (fun h=>by cases h) | refine run_cond (t:=false) rfl (fun h=>by cases h) (fun _=> ?_))
  refine dd ?_
  refine qqx 0 ?_
  refine qqx 1 ?_
  refine qqx 2 ?_
  refine qqx 3 ?_
  refine qqx 6 ?_
  refine qqx 7 ?_
  refine qqx 8 ?_
  refine qqx 9 ?_
  refine qqx 10 ?_
  refine qqx 11 ?_
  refine qqx 12 ?_
  refine pr_one 4 (by decide+kernel) (eff1 4 rfl (st_buildSlice tok rfl rfl rfl rfl rfl rfl rfl) (by decide+kernel) rfl rfl rfl rfl ?_)
  rintro _ _ _ ⟨bl,rfl,rfl,rfl⟩
  refine ppx ?_
  refine qqc 5 (numsL_ok _ _ hG wPart _ 2 [a,n] _ rfl List.mem_cons_self rfl (two _ _ ha hn) (by decide) (show 2≤32 by decide)) ?_
  refine pr_one 13 (by decide+kernel) (eff1 13 rfl (qt_pev tok rfl) (by decide+kernel) rfl rfl rfl rfl ?_)
  rintro _ _ _ ⟨rfl,rfl,rfl⟩
  refine ppx ?_
  refine pr_one 14 (by decide+kernel) (eff0 14 rfl (sst tok rfl rfl rfl rfl rfl) (by decide+kernel) rfl ?_)
  rintro _ _ _ ⟨rfl,rfl,rfl⟩
  refine ppx ?_
  refine pr_end (by decide+kernel) (by decide+kernel) ?_
  repeat (first | refine yy ?_ | refine yx fun _=> ?_)
  exact run_ret hC (rs:= [.tmp 2,.cell 3 60]) rfl (resT rfl (rl tok rfl resN)) (fun _ h=>h.drop.drop.drop) ⟨rfl,rfl,rfl⟩
 ·have he:stepT ⟨4,a,b,c,n,tx,li.xs⟩=wNonce++rwB [a]:=app_nil _
  simp only [Sr.sp]
  rw [he]
  refine Tr.intro 135 Tryz.func79 rfl rfl Tryz.call79 rfl ?_;intro C hC hro
  repeat (first | refine yy ?_ | refine yx fun _=> ?_ | refine run_cond (t:=true) rfl (fun _=> ?_) (fun h=>by cases h) | refine run_cond (t:=false) rfl (fun h=>by cases h) (fun _=> ?_))
  refine dd ?_
  refine qqx 0 ?_
  refine qqx 1 ?_
  refine qqx 4 ?_
  refine qqx 5 ?_
  refine qqx 6 ?_
  refine qqx 7 ?_
  refine qqx 8 ?_
  refine pr_one 2 (by decide+kernel) (eff1 2 rfl (st_buildSlice tok rfl rfl rfl rfl rfl rfl rfl) (by decide+kernel) rfl rfl rfl rfl ?_)
  rintro _ _ _ ⟨bl,rfl,rfl,rfl⟩
  refine ppx ?_
  refine qqc 3 (numsL_ok _ _ hG wNonce _ 1 [a] _ rfl List.mem_cons_self rfl (one _ ha) (by decide) (show 1≤32 by decide)) ?_
  refine pr_one 9 (by decide+kernel) (eff1 9 rfl (qt_pev tok rfl) (by decide+kernel) rfl rfl rfl rfl ?_)
  rintro _ _ _ ⟨rfl,rfl,rfl⟩
  refine ppx ?_
  refine pr_one 10 (by decide+kernel) (eff0 10 rfl (sst tok rfl rfl rfl rfl rfl) (by decide+kernel) rfl ?_)
  rintro _ _ _ ⟨rfl,rfl,rfl⟩
  refine ppx ?_
  refine pr_end (by decide+kernel) (by decide+kernel) ?_
  repeat (first | refine yy ?_ | refine yx fun _=> ?_)
  exact run_ret hC (rs:= [.tmp 2,.cell 3 60]) rfl (resT rfl (rl tok rfl resN)) (fun _ h=>h.drop.drop.drop) ⟨rfl,rfl,rfl⟩
 ·have he:stepT ⟨5,a,b,c,n,tx,li.xs⟩=wBody++rwB [a,b]:=app_nil _
  simp only [Sr.sp]
  rw [he]
  refine Tr.intro 135 Tryz.func79 rfl rfl Tryz.call79 rfl ?_;intro C hC hro
  repeat (first | refine yy ?_ | refine yx fun _=> ?_ | refine run_cond (t:=true) rfl (fun _=> ?_) (fun h=>by cases h) | refine run_cond (t:=false) rfl (fun h=>by cases h) (fun _=> ?_))
  refine dd ?_
  refine qqx 0 ?_
  refine qqx 1 ?_
  refine qqx 2 ?_
  refine qqx 3 ?_
  refine qqx 6 ?_
  refine qqx 7 ?_
  refine qqx 8 ?_
  refine qqx 9 ?_
  refine qqx 10 ?_
  refine qqx 11 ?_
  refine qqx 12 ?_
  refine pr_one 4 (by decide+kernel) (eff1 4 rfl (st_buildSlice tok rfl rfl rfl rfl rfl rfl rfl) (by decide+kernel) rfl rfl rfl rfl ?_)
  rintro _ _ _ ⟨bl,rfl,rfl,rfl⟩
  refine ppx ?_
  refine qqc 5 (numsL_ok _ _ hG wBody _ 2 [a,b] _ rfl List.mem_cons_self rfl (two _ _ ha hb) (by decide) (show 2≤32 by decide)) ?_
  refine pr_one 13 (by decide+kernel) (eff1 13 rfl (qt_pev tok rfl) (by decide+kernel) rfl rfl rfl rfl ?_)
  rintro _ _ _ ⟨rfl,rfl,rfl⟩
  refine ppx ?_
  refine pr_one 14 (by decide+kernel) (eff0 14 rfl (sst tok rfl rfl rfl rfl rfl) (by decide+kernel) rfl ?_)
  rintro _ _ _ ⟨rfl,rfl,rfl⟩
  refine ppx ?_
  refine pr_end (by decide+kernel) (by decide+kernel) ?_
  repeat (first | refine yy ?_ | refine yx fun _=> ?_)
  exact run_ret hC (rs:= [.tmp 2,.cell 3 60]) rfl (resT rfl (rl tok rfl resN)) (fun _ h=>h.drop.drop.drop) ⟨rfl,rfl,rfl⟩
 ·have he:stepT ⟨6,a,b,c,n,tx,li.xs⟩=wRow++rwB li.xs:=by
   show ((wRow++⟨#[]⟩)++_)=_
   rw [app_nil];rfl
  simp only [Sr.sp]
  rw [he]
  refine Tr.intro 135 Tryz.func79 rfl rfl Tryz.call79 rfl ?_;intro C hC hro
  repeat (first | refine yy ?_ | refine dd ?_ | refine yd ?_ | refine yx fun _=> ?_ | refine run_cond (t:=true) rfl (fun _=> ?_) (fun h=>by cases h) | refine run_cond (t:=false) rfl (fun h=>by cases h) (fun _=> ?_) | refine pc (rnums_ok _ _ hG wRow li hIn hlist (by decide) h32) ?_)
  exact run_ret hC (rs:= [.tmp 2,.cell 3 60]) rfl (resT rfl (rl tok rfl resN)) (fun _ h=>h.drop.drop) ⟨rfl,rfl,rfl⟩
 ·have he:stepT ⟨7,a,b,c,n,tx,li.xs⟩=wHash++rwB [a]:=app_nil _
  simp only [Sr.sp]
  rw [he]
  refine Tr.intro 135 Tryz.func79 rfl rfl Tryz.call79 rfl ?_;intro C hC hro
  repeat (first | refine yy ?_ | refine yx fun _=> ?_ | refine run_cond (t:=true) rfl (fun _=> ?_) (fun h=>by cases h) | refine run_cond (t:=false) rfl (fun h=>by cases h) (fun _=> ?_))
  refine dd ?_
  refine qqx 0 ?_
  refine qqx 1 ?_
  refine qqx 4 ?_
  refine qqx 5 ?_
  refine qqx 6 ?_
  refine qqx 7 ?_
  refine qqx 8 ?_
  refine pr_one 2 (by decide+kernel) (eff1 2 rfl (st_buildSlice tok rfl rfl rfl rfl rfl rfl rfl) (by decide+kernel) rfl rfl rfl rfl ?_)
  rintro _ _ _ ⟨bl,rfl,rfl,rfl⟩
  refine ppx ?_
  refine qqc 3 (numsL_ok _ _ hG wHash _ 1 [a] _ rfl List.mem_cons_self rfl (one _ ha) (by decide) (show 1≤32 by decide)) ?_
  refine pr_one 9 (by decide+kernel) (eff1 9 rfl (qt_pev tok rfl) (by decide+kernel) rfl rfl rfl rfl ?_)
  rintro _ _ _ ⟨rfl,rfl,rfl⟩
  refine ppx ?_
  refine pr_one 10 (by decide+kernel) (eff0 10 rfl (sst tok rfl rfl rfl rfl rfl) (by decide+kernel) rfl ?_)
  rintro _ _ _ ⟨rfl,rfl,rfl⟩
  refine ppx ?_
  refine pr_end (by decide+kernel) (by decide+kernel) ?_
  repeat (first | refine yy ?_ | refine yx fun _=> ?_)
  exact run_ret hC (rs:= [.tmp 2,.cell 3 60]) rfl (resT rfl (rl tok rfl resN)) (fun _ h=>h.drop.drop.drop) ⟨rfl,rfl,rfl⟩
 ·have he:stepT ⟨8,a,b,c,n,tx,li.xs⟩=wMac++rwB [a,b]:=app_nil _
  simp only [Sr.sp]
  rw [he]
  refine Tr.intro 135 Tryz.func79 rfl rfl Tryz.call79 rfl ?_;intro C hC hro
  repeat (first | refine yy ?_ | refine yx fun _=> ?_ | refine run_cond (t:=true) rfl (fun _=> ?_) (fun h=>by cases h) | refine run_cond (t:=false) rfl (fun h=>by cases h) (fun _=> ?_))
  refine dd ?_
  refine qqx 0 ?_
  refine qqx 1 ?_
  refine qqx 2 ?_
  refine qqx 3 ?_
  refine qqx 6 ?_
  refine qqx 7 ?_
  refine qqx 8 ?_
  refine qqx 9 ?_
  refine qqx 10 ?_
  refine qqx 11 ?_
  refine qqx 12 ?_
  refine pr_one 4 (by decide+kernel) (eff1 4 rfl (st_buildSlice tok rfl rfl rfl rfl rfl rfl rfl) (by decide+kernel) rfl rfl rfl rfl ?_)
  rintro _ _ _ ⟨bl,rfl,rfl,rfl⟩
  refine ppx ?_
  refine qqc 5 (numsL_ok _ _ hG wMac _ 2 [a,b] _ rfl List.mem_cons_self rfl (two _ _ ha hb) (by decide) (show 2≤32 by decide)) ?_
  refine pr_one 13 (by decide+kernel) (eff1 13 rfl (qt_pev tok rfl) (by decide+kernel) rfl rfl rfl rfl ?_)
  rintro _ _ _ ⟨rfl,rfl,rfl⟩
  refine ppx ?_
  refine pr_one 14 (by decide+kernel) (eff0 14 rfl (sst tok rfl rfl rfl rfl rfl) (by decide+kernel) rfl ?_)
  rintro _ _ _ ⟨rfl,rfl,rfl⟩
  refine ppx ?_
  refine pr_end (by decide+kernel) (by decide+kernel) ?_
  repeat (first | refine yy ?_ | refine yx fun _=> ?_)
  exact run_ret hC (rs:= [.tmp 2,.cell 3 60]) rfl (resT rfl (rl tok rfl resN)) (fun _ h=>h.drop.drop.drop) ⟨rfl,rfl,rfl⟩
 ·have he:stepT ⟨9,a,b,c,n,tx,li.xs⟩=wSeal++rwB [a,b,c]:=app_nil _
  simp only [Sr.sp]
  rw [he]
  refine Tr.intro 135 Tryz.func79 rfl rfl Tryz.call79 rfl ?_;intro C hC hro
  repeat (first | refine yy ?_ | refine yx fun _=> ?_ | refine run_cond (t:=true) rfl (fun _=> ?_) (fun h=>by cases h) | refine run_cond (t:=false) rfl (fun h=>by cases h) (fun _=> ?_))
  refine dd ?_
  refine qqx 0 ?_
  refine qqx 1 ?_
  refine qqx 2 ?_
  refine qqx 3 ?_
  refine qqx 4 ?_
  refine qqx 5 ?_
  refine qqx 8 ?_
  refine qqx 9 ?_
  refine qqx 10 ?_
  refine qqx 11 ?_
  refine qqx 12 ?_
  refine qqx 13 ?_
  refine qqx 14 ?_
  refine qqx 15 ?_
  refine qqx 16 ?_
  refine pr_one 6 (by decide+kernel) (eff1 6 rfl (st_buildSlice tok rfl rfl rfl rfl rfl rfl rfl) (by decide+kernel) rfl rfl rfl rfl ?_)
  rintro _ _ _ ⟨bl,rfl,rfl,rfl⟩
  refine ppx ?_
  refine qqc 7 (numsL_ok _ _ hG wSeal _ 3 [a,b,c] _ rfl List.mem_cons_self rfl (three _ _ _ ha hb hc) (by decide) (show 3≤32 by decide)) ?_
  refine pr_one 17 (by decide+kernel) (eff1 17 rfl (qt_pev tok rfl) (by decide+kernel) rfl rfl rfl rfl ?_)
  rintro _ _ _ ⟨rfl,rfl,rfl⟩
  refine ppx ?_
  refine pr_one 18 (by decide+kernel) (eff0 18 rfl (sst tok rfl rfl rfl rfl rfl) (by decide+kernel) rfl ?_)
  rintro _ _ _ ⟨rfl,rfl,rfl⟩
  refine ppx ?_
  refine pr_end (by decide+kernel) (by decide+kernel) ?_
  repeat (first | refine yy ?_ | refine yx fun _=> ?_)
  exact run_ret hC (rs:= [.tmp 2,.cell 3 60]) rfl (resT rfl (rl tok rfl resN)) (fun _ h=>h.drop.drop.drop) ⟨rfl,rfl,rfl⟩
def clashI (a b:ByteArray):Bool:=decide (refN (runI a)=0∧refN (runI b)=0∧a≠b)&&decide (lookL a=lookL b)
theorem clashI_iff (a b:ByteArray):clashI a b=true↔ClashI a b:=by
 unfold clashI ClashI
 simp only [Bool.and_eq_true,decide_eq_true_eq,refN_zero]
 constructor
 ·rintro ⟨⟨h1,h2,h3⟩,h4⟩;exact ⟨h1,h2,h3,h4⟩
 ·rintro ⟨h1,h2,h3,h4⟩;exact ⟨⟨h1,h2,h3⟩,h4⟩
theorem refClash_ok (M:Mem) (L:HL) (a b:ByteArray) (ha:a.size<1000000) (hb:b.size<1000000):TrQ Tryz.prog 51 [.string a,.string b] M L (.bool (clashI a b)):=by
 have hca:=fun M L=>refCheckN_ok M L a ha
 have hcb:=fun M L=>refCheckN_ok M L b hb
 have hv:(((refN (runI a)==0)&&(refN (runI b)==0))&& !(a.toList==b.toList))=decide (refN (runI a)=0∧refN (runI b)=0∧a≠b):=by
  rw [bytes_beq,Bool.eq_iff_iff];simp [and_assoc]
 have hdef:clashI a b=(decide (refN (runI a)=0∧refN (runI b)=0∧a≠b)&&decide (lookL a=lookL b)):=rfl
 generalize refN (runI a)=na at*
 generalize refN (runI b)=nb at*
 refine Tr.intro 26 Tryz.func51 rfl rfl Tryz.call51 rfl ?_;intro C hC hro
 repeat (first | refine zc ?_ | refine vq ?_)
 refine qc (hca _ _) ?_
 iterate 3 refine yy ?_
 refine gc (hcb _ _) ?_
 iterate 8 refine yy ?_
 by_cases hq:na=0∧nb=0∧a≠b
 ·rw [decide_eq_true hq] at hv hdef
  refine runL_as 18 (.bool true) rfl (congrArg Value.bool hv) ?_
  repeat (first | refine yk ?_ | refine yx fun _=> ?_)
  refine ok (refLooks_ok _ _ a ha) ?_
  rintro _ M1 _ ⟨hM1,rfl,q1,d1,rfl,hs1⟩
  repeat (first | refine yk ?_ | refine yx fun _=> ?_)
  refine ok (refLooks_ok _ _ b hb) ?_
  rintro _ M2 _ ⟨hM2,rfl,q2,d2,rfl,hs2⟩
  have hl6:(lookL a).length<1000000:=by
   have:=runI_len a
   rw [←look_run,List.length_map];omega
  refine ok (refCompare_ok _ _ (lookL a) (lookL b) q1 q2 d1 d2 (hs1.le hM2) hs2 hl6) ?_
  rintro _ _ _ ⟨rfl,rfl,c,rfl,hcm⟩
  have hc0:(c==0)=decide (lookL a=lookL b):=by rw [Bool.eq_iff_iff];simpa using hcm
  rw [Bool.true_and,←hc0] at hdef
  repeat (first | refine yk ?_ | refine yx fun _=> ?_)
  exact run_ret hC (rs:= [.tmp 4]) rfl (resT rfl resN) (fun _ h=>h.of_le (Mem.le_trans hM1 hM2)) ⟨by rw [hdef];rfl,rfl,rfl⟩
 ·rw [decide_eq_false hq] at hv hdef
  refine runL_as 18 (.bool false) rfl (congrArg Value.bool hv) ?_
  repeat (first | refine yk ?_ | refine yx fun _=> ?_)
  exact run_ret hC (rs:= [.tmp 4]) rfl (resT rfl resN) (fun _ h=>h) ⟨by rw [hdef];rfl,rfl,rfl⟩
theorem refRoll_ok (M:Mem) (L:HL) (S:SStr) (hS:StOk M S) (hz: ∀x∈S.xs,x.size<1000000):TrQ Tryz.prog 17 [S.v] M L (.bool (rollB S.xs)):=by
 have hl:=hS.len
 have h6:=hS.2
 have h0:=hS.1
 obtain ⟨a,n,c,xs⟩:=S
 simp only [SStr.v] at*
 have hiff:=roll_iff xs
 have hno: ∀ {P:Prop},P→(RollI xs→ ¬P)→rollB xs=false:=fun hp h=>by
  cases hr:rollB xs with
  | false=>rfl
  | true=>exact absurd hp (h (hiff.1 hr))
 refine Tr.intro 50 Tryz.func17 rfl rfl Tryz.call17 rfl ?_;intro C hC hro
 repeat (first | refine yy ?_ | refine yx fun _=> ?_)
 refine run_cond (t:=decide ((n:Int)<1)||decide ((n:Int)>8)) rfl (fun h=> ?_) (fun h=> ?_)
 ·have hf:=hno h fun hr h=>by have:=hr.len;simp at h;omega
  repeat (first | refine yy ?_ | refine yx fun _=> ?_)
  exact run_ret hC (rs:= [.tmp 2]) rfl (resT rfl resN) (fun _ h=>h) ⟨by rw [hf];rfl,rfl,rfl⟩
 have hlen:1≤xs.length∧xs.length≤8:=by simp at h;omega
 clear h
 repeat (first | refine yy ?_ | refine yx fun _=> ?_)
 refine run_loopN (fun j σ1 M1 L1=>j≤n∧M=M1∧L=L1∧(∀(i:Nat) (x:ByteArray),i<j→xs[i]? =some x→NameI (runI x)∧ ∀(k:Nat) (y:ByteArray),k<i→xs[k]? =some y→y≠x∧ ¬ClashI y x)∧σ1= [(3,iv j),(0,.slice a n c)]) n [(3,iv 0),(0,.slice a n c)] ?_ ⟨Nat.zero_le _,rfl,rfl,(fun _ _ h=>by omega),rfl⟩ (fun j _ _ _ h=>h.1) ?_
 ·exact ⟨rfl,rfl,trivial⟩
 rintro j _ _ _ ⟨hj,rfl,rfl,hpre,rfl⟩ hnext
 repeat (first | refine yy ?_ | refine yx fun _=> ?_)
 refine run_cond (t:=decide ((j:Int)<(n:Int))) rfl (fun h=> ?_) (fun h=> ?_)
 rotate_left
 ·have hge:j=n:=by have:=of_decide_eq_false h;omega
  have ht:rollB xs=true:=hiff.2 ⟨hlen,fun i x hi=>hpre i x (by have:=(List.getElem?_eq_some_iff.1 hi).1;omega) hi⟩
  repeat (first | refine yy ?_ | refine yx fun _=> ?_)
  exact run_ret hC (rs:= [.tmp 2]) rfl (resT rfl resN) (fun _ h=>h) ⟨by rw [ht];rfl,rfl,rfl⟩
 have hlt:j<n:=by have:=of_decide_eq_true h;omega
 obtain ⟨b1,o1,x,rfl,hx,hc1⟩:=SStr.at_ h0 hlt
 have hxz:=hz x (List.mem_of_getElem? hx)
 repeat (first | refine yy ?_ | refine yx fun _=> ?_ | refine qc (refCheckN_ok _ _ x hxz) ?_)
 refine run_cond (t:=refN (runI x) !=0) rfl (fun h=> ?_) (fun h=> ?_)
 ·have hf:=hno h fun hr h=>by
   have:=(refN_zero (runI x)).2 (hr.each j x hx).1
   rw [this] at h;cases h
  repeat (first | refine yy ?_ | refine yx fun _=> ?_)
  exact run_ret hC (rs:= [.tmp 2]) rfl (resT rfl resN) (fun _ h=>h) ⟨by rw [hf];rfl,rfl,rfl⟩
 have hnm:NameI (runI x):=(refN_zero _).1 (by simpa using h)
 clear h
 repeat (first | refine yy ?_ | refine yx fun _=> ?_)
 refine run_loopN (fun k σ1 M1 L1=>k≤j∧M=M1∧L=L1∧(∀(i:Nat) (y:ByteArray),i<k→xs[i]? =some y→y≠x∧ ¬ClashI y x)∧σ1= [(4,iv k),(3,iv j),(0,.slice (some ⟨b1,o1,none⟩) n c)]) j [(4,iv 0),(3,iv j),(0,.slice (some ⟨b1,o1,none⟩) n c)] ?_ ⟨Nat.zero_le _,rfl,rfl,(fun _ _ h=>by omega),rfl⟩ (fun j _ _ _ h=>h.1) ?_
 ·exact ⟨rfl,rfl,rfl,trivial⟩
 rintro k _ _ _ ⟨hk,rfl,rfl,hin,rfl⟩ hnext2
 repeat (first | refine yy ?_ | refine yx fun _=> ?_)
 refine run_cond (t:=decide ((k:Int)<(j:Int))) rfl (fun h=> ?_) (fun h=> ?_)
 ·have hlt2:k<j:=by have:=of_decide_eq_true h;omega
  obtain ⟨b2,o2,y,e2,hy,hc2⟩:=SStr.at_ h0 (show k<n by omega)
  cases e2
  have hyz:=hz y (List.mem_of_getElem? hy)
  have hkn:k<n:=by omega
  repeat (first | refine yy ?_ | refine dd ?_ | refine yd ?_ | refine yx fun _=> ?_ | refine pgc (refClash_ok _ _ y x hyz hxz) ?_)
  refine run_cond (t:=(y.toList==x.toList)||clashI y x) rfl (fun h=> ?_) (fun h=> ?_)
  ·have hf:=hno h fun hr h=>by
    obtain ⟨q1,q2⟩:=(hr.each j x hx).2 k y hlt2 hy
    rw [bytes_beq,Bool.or_eq_true] at h
    rcases h with h | h
    ·exact q1 (by simpa using h)
    ·exact q2 ((clashI_iff _ _).1 h)
   repeat (first | refine yy ?_ | refine yx fun _=> ?_)
   exact run_ret hC (rs:= [.tmp 2]) rfl (resT rfl resN) (fun _ h=>h) ⟨by rw [hf];rfl,rfl,rfl⟩
  ·rw [bytes_beq,Bool.or_eq_false_iff] at h
   obtain ⟨g1,g2⟩:=h
   repeat (first | refine yy ?_ | refine yx fun _=> ?_)
   refine run_sub' (hnext2 _ _ _ ⟨hlt2,rfl,rfl,fun i z hi hzz=> ?_,rfl⟩) ⟨lk_succ rfl (by omega),rfl,rfl,trivial⟩
   by_cases hik:i=k
   ·subst hik
    rw [hy] at hzz
    obtain rfl:=Option.some.inj hzz
    exact ⟨by simpa using g1,fun hc=>by rw [(clashI_iff _ _).2 hc] at g2;cases g2⟩
   ·exact hin i z (by omega) hzz
 ·have hge:k=j:=by have:=of_decide_eq_false h;omega
  subst hge
  repeat (first | refine yy ?_ | refine yx fun _=> ?_)
  refine run_sub' (hnext _ _ _ ⟨hlt,rfl,rfl,fun i z hi hzz=> ?_,rfl⟩) ⟨lk_succ rfl (by omega),rfl,trivial⟩
  by_cases hik:i=k
  ·subst hik
   rw [hx] at hzz
   obtain rfl:=Option.some.inj hzz
   exact ⟨hnm,hin⟩
  ·exact hpre i z (by omega) hzz
def isT (t:ByteArray):Bool:=checkR t==0
theorem ref06May_ok (M:Mem) (L:HL) (t:ByteArray) (ht:t.size<4611686018427387904):TrQ Tryz.prog 116 [.string t] M L (.bool (isT t)):=by
 refine Tr.intro 6 Tryz.func116 rfl rfl Tryz.call116 rfl ?_;intro C hC hro
 repeat (first | refine zz ?_ | refine zx fun _=> ?_ | refine runL_q (qt_callF rfl (fun _=>refCheck_ok _ _ t ht)) rfl rfl rfl ?_)
 exact run_ret hC (rs:= [.tmp 2]) rfl (resT rfl resN) (fun _ h=>h) ⟨by rw [isT,←refCheck_eq _ ht];rfl,rfl,rfl⟩
theorem refOrg_ok (M:Mem) (L:HL) (n:Int):TrQ Tryz.prog 82 [.int .i64 n] M L (.bool (orgW n)):=by
 refine Tr.intro 9 Tryz.func82 rfl rfl Tryz.call82 rfl ?_;intro C hC hro
 repeat (first | refine zz ?_ | refine zx fun _=> ?_)
 exact run_ret hC (rs:= [.tmp 2]) rfl (resT rfl resN) (fun _ h=>h) ⟨rfl,rfl,rfl⟩
theorem refTx_ok (M:Mem) (L:HL) (t:Tx):TrQ Tryz.prog 44 [.agg ⟨txC t⟩] M L (.bool (mayTx t)):=by
 refine Tr.intro 26 Tryz.func44 rfl rfl Tryz.call44 rfl ?_;intro C hC hro
 repeat (first | refine zz ?_ | refine zx fun _=> ?_ | refine runL_q (qt_callF rfl (fun _=>refOrg_ok _ _ _)) rfl rfl rfl ?_)
 exact run_ret hC (rs:= [.tmp 2]) rfl (resT rfl resN) (fun _ h=>h.drop) ⟨rfl,rfl,rfl⟩
theorem refNm_ok (M:Mem) (L:HL) (n:Int):TrQ Tryz.prog 115 [.int .i64 n] M L (.bool (nmW n)):=by
 refine Tr.intro 9 Tryz.func115 rfl rfl Tryz.call115 rfl ?_;intro C hC hro
 repeat (first | refine zz ?_ | refine zx fun _=> ?_)
 exact run_ret hC (rs:= [.tmp 2]) rfl (resT rfl resN) (fun _ h=>h) ⟨rfl,rfl,rfl⟩
set_option maxRecDepth 10000 in
theorem refMayStep_ok (M:Mem) (L:HL) (x:Sr) (hx:SrOk M x) (r:Bool) (hr:r=true↔SpP x.sp):TrQ Tryz.prog 117 [.agg ⟨srC x⟩] M L (.bool r):=by
 have l1:=hx.list.len
 have n1:=hx.list.2
 refine Tr.intro 62 Tryz.func117 rfl rfl Tryz.call117 rfl ?_;intro C hC hro
 repeat (first | refine zz ?_ | refine zx fun _=> ?_ | refine runL_g rfl rfl (qt_callF rfl (fun _=>refNm_ok _ _ x.a)) rfl rfl rfl rfl rfl ?_ | refine runL_g rfl rfl (qt_callF rfl (fun _=>refNm_ok _ _ x.b)) rfl rfl rfl rfl rfl ?_ | refine runL_g rfl rfl (qt_callF rfl (fun _=>refNm_ok _ _ x.c)) rfl rfl rfl rfl rfl ?_ | refine runL_g rfl rfl (qt_callF rfl (fun _=>refNm_ok _ _ x.n)) rfl rfl rfl rfl rfl ?_)
 rename_i bx
 refine run_cond rfl (fun h=> ?_) (fun h=> ?_)
 ·have hrf:r=false:=by
   cases r with
   | false=>rfl
   | true=>
     exfalso
     obtain ⟨⟨d1,d2⟩,h2,h3,h4,h5,h6,h7,h8⟩:=hr.1 rfl
     simp only [Sr.sp] at d1 d2 h2 h3 h4 h5 h6 h7
     rw [l1] at h7
     simp only [h2,h3,h4,h5,Bool.not_true,Bool.or_false,Bool.or_eq_true,decide_eq_true_eq] at h
     omega
  subst hrf
  repeat (first | refine zz ?_ | refine zx fun _=> ?_)
  exact run_ret hC (rs:= [.tmp 2]) rfl (resT rfl resN) (fun _ h=>h.drop) ⟨rfl,rfl,rfl⟩
 have hr2:r=true↔ ∀v∈x.list.xs,nmW v=true:=by
  rw [hr]
  simp only [Bool.or_eq_false_iff,decide_eq_false_iff_not,Bool.not_eq_false'] at h
  obtain ⟨⟨⟨⟨⟨⟨⟨d1,d2⟩,h2⟩,h3⟩,h4⟩,h5⟩,h6⟩,h7⟩:=h
  exact ⟨fun q=>q.list,fun q=>⟨by show 1≤x.do_∧x.do_≤9;omega,h2,h3,h4,h5,by show x.text.size≤1024;omega,by show x.list.xs.length≤32;omega,q⟩⟩
 repeat (first | refine zz ?_ | refine zx fun _=> ?_)
 refine run_loopN (fun j σ1 M1 L1=>j≤x.list.len∧M=M1∧(∀v∈x.list.xs.take j,nmW v=true)∧L1=(bx,.cells ⟨srC x⟩ 60 (0,0))::L∧σ1= [(3,.int .i64 (j:Int)),(1,.pointer (some ⟨bx,0,none⟩))]) x.list.len [(3,.int .i64 ((0:Nat):Int)),(1,.pointer (some ⟨bx,0,none⟩))] ?_ ⟨Nat.zero_le _,rfl,by simp,rfl,rfl⟩ (fun j _ _ _ h=>h.1) ?_
 ·exact ⟨rfl,rfl,trivial⟩
 rintro j _ _ _ ⟨hj,rfl,hall,rfl,rfl⟩ hnext
 repeat (first | refine zz ?_ | refine zx fun _=> ?_)
 refine run_cond rfl (fun h=> ?_) (fun h=> ?_)
 ·have hlt:j<x.list.len:=by simpa using h
  obtain ⟨b,off,m,hma,hm,hc⟩:=SIn.at_ hx.list.1 hlt
  have hv:x.list.v= .slice (some ⟨b,off,none⟩) x.list.len x.list.cap:=by rw [←hma];rfl
  repeat (first | refine zz ?_ | refine zx fun _=> ?_)
  refine runL_as 56 (.slice (some ⟨b,off,none⟩) x.list.len x.list.cap) rfl hv ?_
  repeat (first | refine zz ?_ | refine zx fun _=> ?_ | refine runL_q (qt_indexN tok rfl rfl rfl rfl (fun _=>by omega)) rfl rfl rfl ?_ | refine runL_g rfl rfl (qt_indexN tok rfl rfl rfl rfl (fun _=>by omega)) rfl rfl rfl rfl rfl ?_ | refine runL_q (qt_ldM tok rfl hc rfl) rfl rfl rfl ?_ | refine runL_g rfl rfl (qt_ldM tok rfl hc rfl) rfl rfl rfl rfl rfl ?_ | refine runL_q (qt_ldM0 tok rfl hc rfl) rfl rfl rfl ?_ | refine runL_g rfl rfl (qt_ldM0 tok rfl hc rfl) rfl rfl rfl rfl rfl ?_ | refine runL_q (qt_callF rfl (fun _=>refNm_ok _ _ m)) rfl rfl rfl ?_)
  refine run_cond rfl (fun h=> ?_) (fun h=> ?_)
  ·have hrf:r=false:=by
    cases r with
    | false=>rfl
    | true=>
      have h2:=hr2.1 rfl m (List.mem_of_getElem? hm)
      rw [h2] at h;cases h
   subst hrf
   repeat (first | refine zz ?_ | refine zx fun _=> ?_)
   exact run_ret hC (rs:= [.tmp 2]) rfl (resT rfl resN) (fun _ h=>h.drop) ⟨rfl,rfl,rfl⟩
  ·have hmm:nmW m=true:=by simpa using h
   repeat (first | refine zz ?_ | refine zx fun _=> ?_)
   refine run_sub' (hnext _ _ _ ⟨hlt,rfl, ?_,rfl,rfl⟩) ⟨lk_succ rfl (by omega),rfl,trivial⟩
   intro v hv
   rw [take_snoc hm] at hv
   rcases List.mem_append.1 hv with hv | hv
   ·exact hall v hv
   ·rw [List.mem_singleton.1 hv];exact hmm
 ·have hge:j=x.list.len:=by simp at h;omega
  subst hge
  rw [List.take_of_length_le (by omega)] at hall
  have hrt:r=true:=hr2.2 hall
  subst hrt
  repeat (first | refine zz ?_ | refine zx fun _=> ?_)
  exact run_ret hC (rs:= [.tmp 2]) rfl (resT rfl resN) (fun _ h=>h.drop) ⟨rfl,rfl,rfl⟩
def ofL (k:Int):List Bool:=
 if k=1 then [true,true,false,true,false,false,false] else
 if k=2 then [true,false,false,false,true,true,false] else
 if k=3∨k=8 then [true,false,false,false,false,false,false] else
 if k=4 then [false,false,true,false,false,false,false] else
 if k=5∨k=10 then [true,false,false,false,false,false,true] else
 if k=6∨k=7 then [true,false,true,false,false,false,false] else
 if k=9 then [true,false,false,false,true,false,false] else [false,false,false,false,false,false,false]
def ofC (k:Int):List Value:=(ofL k).map Value.bool
set_option maxRecDepth 10000 in
theorem refOf_ok (M:Mem) (L:HL) (k:Int):TrQ Tryz.prog 78 [.int .u8 k] M L (.tuple ⟨[.agg ⟨ofC k⟩,.bool (decide (1≤k∧k≤10))]⟩):=by
 refine Tr.intro 30 Tryz.func78 rfl rfl Tryz.call78 rfl ?_;intro C hC hro
 by_cases hk:1≤k∧k≤10
 ·have hk10:k=1∨k=2∨k=3∨k=4∨k=5∨k=6∨k=7∨k=8∨k=9∨k=10:=by omega
  rcases hk10 with rfl | rfl | rfl | rfl | rfl | rfl | rfl | rfl | rfl | rfl
  ·repeat (first | refine zz ?_ | refine zx fun _=> ?_ | refine run_cond rfl (fun _=> ?_) (fun h=>absurd h (by decide)) | refine run_cond rfl (fun h=>absurd h (by decide)) (fun _=> ?_))
   exact run_ret hC (rs:= [.cell 2 119,.tmp 3]) rfl (rl tok rfl (resT rfl resN)) (fun _ h=>h.drop) ⟨rfl,rfl,rfl⟩
  ·repeat (first | refine zz ?_ | refine zx fun _=> ?_ | refine run_cond rfl (fun _=> ?_) (fun h=>absurd h (by decide)) | refine run_cond rfl (fun h=>absurd h (by decide)) (fun _=> ?_))
   exact run_ret hC (rs:= [.cell 2 119,.tmp 3]) rfl (rl tok rfl (resT rfl resN)) (fun _ h=>h.drop) ⟨rfl,rfl,rfl⟩
  ·repeat (first | refine zz ?_ | refine zx fun _=> ?_ | refine run_cond rfl (fun _=> ?_) (fun h=>absurd h (by decide)) | refine run_cond rfl (fun h=>absurd h (by decide)) (fun _=> ?_))
   exact run_ret hC (rs:= [.cell 2 119,.tmp 3]) rfl (rl tok rfl (resT rfl resN)) (fun _ h=>h.drop) ⟨rfl,rfl,rfl⟩
  ·repeat (first | refine zz ?_ | refine zx fun _=> ?_ | refine run_cond rfl (fun _=> ?_) (fun h=>absurd h (by decide)) | refine run_cond rfl (fun h=>absurd h (by decide)) (fun _=> ?_))
   exact run_ret hC (rs:= [.cell 2 119,.tmp 3]) rfl (rl tok rfl (resT rfl resN)) (fun _ h=>h.drop) ⟨rfl,rfl,rfl⟩
  ·repeat (first | refine zz ?_ | refine zx fun _=> ?_ | refine run_cond rfl (fun _=> ?_) (fun h=>absurd h (by decide)) | refine run_cond rfl (fun h=>absurd h (by decide)) (fun _=> ?_))
   exact run_ret hC (rs:= [.cell 2 119,.tmp 3]) rfl (rl tok rfl (resT rfl resN)) (fun _ h=>h.drop) ⟨rfl,rfl,rfl⟩
  ·repeat (first | refine zz ?_ | refine zx fun _=> ?_ | refine run_cond rfl (fun _=> ?_) (fun h=>absurd h (by decide)) | refine run_cond rfl (fun h=>absurd h (by decide)) (fun _=> ?_))
   exact run_ret hC (rs:= [.cell 2 119,.tmp 3]) rfl (rl tok rfl (resT rfl resN)) (fun _ h=>h.drop) ⟨rfl,rfl,rfl⟩
  ·repeat (first | refine zz ?_ | refine zx fun _=> ?_ | refine run_cond rfl (fun _=> ?_) (fun h=>absurd h (by decide)) | refine run_cond rfl (fun h=>absurd h (by decide)) (fun _=> ?_))
   exact run_ret hC (rs:= [.cell 2 119,.tmp 3]) rfl (rl tok rfl (resT rfl resN)) (fun _ h=>h.drop) ⟨rfl,rfl,rfl⟩
  ·repeat (first | refine zz ?_ | refine zx fun _=> ?_ | refine run_cond rfl (fun _=> ?_) (fun h=>absurd h (by decide)) | refine run_cond rfl (fun h=>absurd h (by decide)) (fun _=> ?_))
   exact run_ret hC (rs:= [.cell 2 119,.tmp 3]) rfl (rl tok rfl (resT rfl resN)) (fun _ h=>h.drop) ⟨rfl,rfl,rfl⟩
  ·repeat (first | refine zz ?_ | refine zx fun _=> ?_ | refine run_cond rfl (fun _=> ?_) (fun h=>absurd h (by decide)) | refine run_cond rfl (fun h=>absurd h (by decide)) (fun _=> ?_))
   exact run_ret hC (rs:= [.cell 2 119,.tmp 3]) rfl (rl tok rfl (resT rfl resN)) (fun _ h=>h.drop) ⟨rfl,rfl,rfl⟩
  ·repeat (first | refine zz ?_ | refine zx fun _=> ?_ | refine run_cond rfl (fun _=> ?_) (fun h=>absurd h (by decide)) | refine run_cond rfl (fun h=>absurd h (by decide)) (fun _=> ?_))
   exact run_ret hC (rs:= [.cell 2 119,.tmp 3]) rfl (rl tok rfl (resT rfl resN)) (fun _ h=>h.drop) ⟨rfl,rfl,rfl⟩
 ·have hd:decide (1≤k∧k≤10)=false:=decide_eq_false hk
  have hp:ofC k= [.bool false,.bool false,.bool false,.bool false,.bool false,.bool false,.bool false]:=by
   unfold ofC ofL
   rw [if_neg (by omega),if_neg (by omega),if_neg (by omega),if_neg (by omega),if_neg (by omega),if_neg (by omega),if_neg (by omega)]
   rfl
  rw [hd,hp] at hC
  repeat (first | refine zz ?_ | refine zx fun _=> ?_ | refine run_cond rfl (fun h=>absurd h (by simp;omega)) (fun _=> ?_))
  exact run_ret hC (rs:= [.cell 2 119,.tmp 3]) rfl (rl tok rfl (resT rfl resN)) (fun _ h=>h.drop) ⟨rfl,rfl,rfl⟩
def dB (is o au n g t y s:Bool) (x:Ax):Bool:=(((((((!is)||((!o)&&(x.org !=0)))||((!au)&&(x.auditor !=0)))||((!n)&&(x.n !=0)))||((!g)&&decide ((x.gives.len:Int)>0)))||((!t)&& !((x.txn.coord==0)&&((x.txn.epoch==0)&&((x.txn.seq==0)&&true)))))||((!y)&&x.yes))||((!s)&&decide ((x.steps.len:Int)>0))
def dD (t:Bool) (x:Ax):Bool:=(((((!orgW x.org)|| !orgW x.auditor)|| !nmW x.n)||(t&& !mayTx x.txn))||decide ((x.gives.len:Int)>6))||decide ((x.steps.len:Int)>64)
theorem dB_iff {is o au n g t y s:Bool} {x:Ax} (hi:is=true↔1≤x.do_∧x.do_≤10) (h1:1≤x.do_∧x.do_≤10→(o=true↔x.do_≠4)) (h2:1≤x.do_∧x.do_≤10→(au=true↔x.do_=1)) (h3:1≤x.do_∧x.do_≤10→(n=true↔x.do_=4∨x.do_=6∨x.do_=7)) (h4:1≤x.do_∧x.do_≤10→(g=true↔x.do_=1)) (h5:1≤x.do_∧x.do_≤10→(t=true↔x.do_=2∨x.do_=9)) (h6:1≤x.do_∧x.do_≤10→(y=true↔x.do_=2)) (h7:1≤x.do_∧x.do_≤10→(s=true↔x.do_=5∨x.do_=10)):
 dB is o au n g t y s x=false↔(1≤x.do_∧x.do_≤10)∧bareA x=true:=by
 have e1: ∀(b:Bool) (v:Int),((!b)&&(v !=0))=false↔(b=false→v=0):=fun b v=>by cases b <;> simp
 have e2: ∀(b:Bool) (v:Nat),((!b)&&decide ((v:Int)>0))=false↔(b=false→v=0):=fun b v=>by cases b <;> simp
 have e3: ∀(b c:Bool),((!b)&&c)=false↔(b=false→c=false):=fun b v=>by cases b <;> simp
 have e4:(!((x.txn.coord==0)&&((x.txn.epoch==0)&&((x.txn.seq==0)&&true))))=false↔x.txn=tz:=by
  rw [Bool.not_eq_false']
  exact ⟨tx_tz,fun h=>by rw [h];rfl⟩
 unfold dB
 rw [bareA_iff]
 simp only [Bool.or_eq_false_iff,e1,e2,e3 t,e4,e3 y]
 have nf: ∀ {b:Bool} {P:Prop},(b=true↔P)→(b=false↔ ¬P):=fun {b P} h=>by rw [←h];simp
 constructor
 ·rintro ⟨⟨⟨⟨⟨⟨⟨a0,a1⟩,a2⟩,a3⟩,a4⟩,a5⟩,a6⟩,a7⟩
  have hk:=hi.1 (by simpa using a0)
  have n1:=nf (h1 hk);have n2:=nf (h2 hk);have n3:=nf (h3 hk);have n4:=nf (h4 hk);have n5:=nf (h5 hk);have n6:=nf (h6 hk);have n7:=nf (h7 hk)
  exact ⟨hk,fun q=>a1 (n1.2 (by omega)),fun q=>⟨a2 (n2.2 q),a4 (n4.2 q)⟩,fun q=>a5 (n5.2 (by omega)),fun q=>a6 (n6.2 q),fun q=>a7 (n7.2 (by omega)),fun q=>a3 (n3.2 (by omega))⟩
 ·rintro ⟨hk,b1,b2,b3,b4,b5,b6⟩
  have n1:=nf (h1 hk);have n2:=nf (h2 hk);have n3:=nf (h3 hk);have n4:=nf (h4 hk);have n5:=nf (h5 hk);have n6:=nf (h6 hk);have n7:=nf (h7 hk)
  exact ⟨⟨⟨⟨⟨⟨⟨by simpa using hi.2 hk,fun q=>b1 (by have:=n1.1 q;omega)⟩,fun q=>(b2 (n2.1 q)).1⟩,fun q=>b6 (by have:=n3.1 q;omega)⟩,fun q=>(b2 (n4.1 q)).2⟩,fun q=>b3 (by have:=n5.1 q;omega)⟩,fun q=>b4 (n6.1 q)⟩,fun q=>b5 (by have:=n7.1 q;omega)⟩
theorem dD_iff {t:Bool} {x:Ax} :dD t x=false↔orgW x.org=true∧orgW x.auditor=true∧nmW x.n=true∧(t=true→mayTx x.txn=true)∧x.gives.len≤6∧x.steps.len≤64:=by
 have e3:(t&& !mayTx x.txn)=false↔(t=true→mayTx x.txn=true):=by cases t <;> simp
 unfold dD
 simp only [Bool.or_eq_false_iff,e3,Bool.not_eq_false',decide_eq_false_iff_not]
 constructor
 ·rintro ⟨⟨⟨⟨⟨a0,a1⟩,a2⟩,a3⟩,a4⟩,a5⟩;exact ⟨a0,a1,a2,a3,by omega,by omega⟩
 ·rintro ⟨a0,a1,a2,a3,a4,a5⟩;exact ⟨⟨⟨⟨⟨a0,a1⟩,a2⟩,a3⟩,by omega⟩,by omega⟩
theorem of_ex (k:Int): ∃o au n g t y s:Bool,ofC k= [.bool o,.bool au,.bool n,.bool g,.bool t,.bool y,.bool s]∧
 (1≤k∧k≤10→(o=true↔k≠4))∧(1≤k∧k≤10→(au=true↔k=1))∧(1≤k∧k≤10→(n=true↔k=4∨k=6∨k=7))∧(1≤k∧k≤10→(g=true↔k=1))∧(1≤k∧k≤10→(t=true↔k=2∨k=9))∧(1≤k∧k≤10→(y=true↔k=2))∧(1≤k∧k≤10→(s=true↔k=5∨k=10)):=by
 by_cases hk:1≤k∧k≤10
 ·have hk10:k=1∨k=2∨k=3∨k=4∨k=5∨k=6∨k=7∨k=8∨k=9∨k=10:=by omega
  rcases hk10 with rfl | rfl | rfl | rfl | rfl | rfl | rfl | rfl | rfl | rfl <;> exact ⟨_,_,_,_,_,_,_,rfl,by simp,by simp,by simp,by simp,by simp,by simp,by simp⟩
 ·refine ⟨false,false,false,false,false,false,false, ?_,fun h=>absurd h hk,fun h=>absurd h hk,fun h=>absurd h hk,fun h=>absurd h hk,fun h=>absurd h hk,fun h=>absurd h hk,fun h=>absurd h hk⟩
  unfold ofC ofL
  rw [if_neg (by omega),if_neg (by omega),if_neg (by omega),if_neg (by omega),if_neg (by omega),if_neg (by omega),if_neg (by omega)]
  rfl
theorem acP_fine {M:Mem} {x:Ax} (hx:AxOk M x):AcP x.aa↔FineP x:=by
 have h0:chkA x=0↔fineA x=true:=by unfold chkA;split <;> simp_all
 have hl: ∀s∈x.steps.xs,s.list.xs.length=s.list.len:=fun s hs=>(hx.steps.each s hs).list.len
 rw [←chkA_iff hx.gives.len hx.steps.len hl,h0,fineA_iff hl]
theorem gvB_iff {g:Mb} {t:Bool} (h:((!orgW g.org)|| !isT g.digest)=t):t=false↔GvP g:=by
 subst h
 unfold GvP isT
 simp
set_option maxRecDepth 10000 in
theorem refMay_ok (M:Mem) (L:HL) (x:Ax) (hx:AxOk M x) (r:Bool) (hr:r=true↔AcP x.aa):TrQ Tryz.prog 77 [.agg ⟨axC x⟩] M L (.bool r):=by
 have l1:=hx.gives.len
 have l3:=hx.steps.len
 have n1:=hx.gives.2
 have n3:=hx.steps.lt
 have hOf:=refOf_ok M ((0,.cells ⟨axC x⟩ 28 (0,0))::L) x.do_
 obtain ⟨o,au,n,g,t,y,s,hof,f1,f2,f3,f4,f5,f6,f7⟩:=of_ex x.do_
 generalize hi:decide (1≤x.do_∧x.do_≤10)=is at hOf
 have hi:is=true↔1≤x.do_∧x.do_≤10:=by rw [←hi];simp
 have hB:=dB_iff hi f1 f2 f3 f4 f5 f6 f7
 have hD:=dD_iff (t:=t) (x:=x)
 have hr1:r=true↔(dB is o au n g t y s x=false∧dD t x=false)∧(∀m∈x.gives.xs,GvP m)∧(∀m∈x.steps.xs,SpP m.sp):=by
  rw [hr,acP_fine hx,hB,hD]
  constructor
  ·rintro ⟨hk,a2,a3,a4,a5,a6,a7,a8,a9,a10⟩
   exact ⟨⟨⟨hk,a2⟩,a3,a4,a5,fun q=>a8 ((f5 hk).1 q),a6,a7⟩,a9,a10⟩
  ·rintro ⟨⟨⟨hk,a2⟩,a3,a4,a5,a8,a6,a7⟩,a9,a10⟩
   exact ⟨hk,a2,a3,a4,a5,a6,a7,fun q=>a8 ((f5 hk).2 q),a9,a10⟩
 clear hB hD hr f1 f2 f3 f4 f5 f6 f7 hOf
 have hOf: ∀L',TrQ Tryz.prog 78 [.int .u8 x.do_] M L' (.tuple ⟨[.agg ⟨[.bool o,.bool au,.bool n,.bool g,.bool t,.bool y,.bool s]⟩,.bool is]⟩):=by
  intro L'
  have:=refOf_ok M L' x.do_
  rw [hof,show decide (1≤x.do_∧x.do_≤10)=is by rw [Bool.eq_iff_iff,hi];simp] at this
  exact this
 refine Tr.intro 164 Tryz.func77 rfl rfl Tryz.call77 rfl ?_;intro C hC hro
 repeat (first | refine zz ?_ | refine zx fun _=> ?_ | refine runL_q (qt_callF rfl (fun _=>hOf _)) rfl rfl rfl ?_)
 rename_i bx bn
 refine run_cond rfl (fun h=> ?_) (fun h=> ?_)
 ·have hb:dB is o au n g t y s x=true:=h
  have hrf:r=false:=by
   cases r with
   | false=>rfl
   | true=>have:=(hr1.1 rfl).1.1;rw [hb] at this;cases this
  subst hrf
  repeat (first | refine zz ?_ | refine zx fun _=> ?_)
  exact run_ret hC (rs:= [.tmp 2]) rfl (resT rfl resN) (fun _ h=>h.drop.drop) ⟨rfl,rfl,rfl⟩
 have hb:dB is o au n g t y s x=false:=h
 clear h
 repeat (first | refine zz ?_ | refine zx fun _=> ?_ | refine runL_q (qt_callF rfl (fun _=>refOrg_ok _ _ _)) rfl rfl rfl ?_ | refine runL_g rfl rfl (qt_callF rfl (fun _=>refOrg_ok _ _ _)) rfl rfl rfl rfl rfl ?_ | refine runL_g rfl rfl (qt_callF rfl (fun _=>refNm_ok _ _ _)) rfl rfl rfl rfl rfl ?_ | refine runL_g rfl rfl (qt_callF rfl (fun _=>refTx_ok _ _ x.txn)) rfl rfl rfl rfl rfl ?_)
 refine run_cond rfl (fun h=> ?_) (fun h=> ?_)
 ·have hd:dD t x=true:=h
  have hrf:r=false:=by
   cases r with
   | false=>rfl
   | true=>have:=(hr1.1 rfl).1.2;rw [hd] at this;cases this
  subst hrf
  repeat (first | refine zz ?_ | refine zx fun _=> ?_)
  exact run_ret hC (rs:= [.tmp 2]) rfl (resT rfl resN) (fun _ h=>h.drop.drop) ⟨rfl,rfl,rfl⟩
 have hd:dD t x=false:=h
 clear h
 repeat (first | refine zz ?_ | refine zx fun _=> ?_)
 have hr2:r=true↔(∀m∈x.gives.xs,GvP m)∧(∀m∈x.steps.xs,SpP m.sp):=by
  rw [hr1]
  exact ⟨fun q=>q.2,fun q=>⟨⟨hb,hd⟩,q⟩⟩
 clear hr1
 refine run_loopN (fun j σ1 M1 L1=>j≤x.gives.len∧M=M1∧(∀m∈x.gives.xs.take j,GvP m)∧L1=(bn,Obj.cells ⟨[.bool o,.bool au,.bool n,.bool g,.bool t,.bool y,.bool s]⟩ 119 (0,0))::(bx,Obj.cells ⟨axC x⟩ 28 (0,0))::L∧σ1= [(5,.int .i64 (j:Int)),(1,.pointer (some ⟨bx,0,none⟩))]) x.gives.len [(5,.int .i64 ((0:Nat):Int)),(1,.pointer (some ⟨bx,0,none⟩))] ?_ ⟨Nat.zero_le _,rfl,by simp,rfl,rfl⟩ (fun j _ _ _ h=>h.1) ?_
 ·exact ⟨rfl,rfl,trivial⟩
 rintro j _ _ _ ⟨hj,rfl,hall,rfl,rfl⟩ hnext
 repeat (first | refine zz ?_ | refine zx fun _=> ?_)
 refine run_cond rfl (fun h=> ?_) (fun h=> ?_)
 ·have hlt:j<x.gives.len:=by simpa using h
  obtain ⟨b,off,m,hma,hm,hc⟩:=SMb.at_ hx.gives.1 hlt
  have hv:x.gives.v= .slice (some ⟨b,off,none⟩) x.gives.len x.gives.cap:=by rw [←hma];rfl
  have hmp:=hx.pay m (List.mem_of_getElem? hm)
  repeat (first | refine zz ?_ | refine zx fun _=> ?_)
  refine runL_as 133 (.slice (some ⟨b,off,none⟩) x.gives.len x.gives.cap) rfl hv ?_
  repeat (first | refine runL_g rfl rfl (Qt.as (v':=Value.slice (some ⟨b,off,none⟩) x.gives.len x.gives.cap) (ql tok rfl) hv) rfl rfl rfl rfl rfl ?_ | refine zz ?_ | refine zx fun _=> ?_ | refine runL_q (qt_indexN tok rfl rfl rfl rfl (fun _=>by omega)) rfl rfl rfl ?_ | refine runL_g rfl rfl (qt_indexN tok rfl rfl rfl rfl (fun _=>by omega)) rfl rfl rfl rfl rfl ?_ | refine runL_q (qt_ldM tok rfl hc rfl) rfl rfl rfl ?_ | refine runL_g rfl rfl (qt_ldM tok rfl hc rfl) rfl rfl rfl rfl rfl ?_ | refine runL_q (qt_ldM0 tok rfl hc rfl) rfl rfl rfl ?_ | refine runL_g rfl rfl (qt_ldM0 tok rfl hc rfl) rfl rfl rfl rfl rfl ?_ | refine runL_q (qt_callF rfl (fun _=>refOrg_ok _ _ m.org)) rfl rfl rfl ?_ | refine runL_g rfl rfl (qt_callF rfl (fun _=>ref06May_ok _ _ m.digest (by omega))) rfl rfl rfl rfl rfl ?_)
  refine run_cond rfl (fun h=> ?_) (fun h=> ?_)
  ·have hno: ¬GvP m:=fun e=>by have h1:=(gvB_iff h).2 e;cases h1
   have hrf:r=false:=by
    cases r with
    | false=>rfl
    | true=>exact absurd ((hr2.1 rfl).1 m (List.mem_of_getElem? hm)) hno
   subst hrf
   repeat (first | refine zz ?_ | refine zx fun _=> ?_)
   exact run_ret hC (rs:= [.tmp 2]) rfl (resT rfl resN) (fun _ h=>h.drop.drop) ⟨rfl,rfl,rfl⟩
  ·have hgp:GvP m:=(gvB_iff h).1 rfl
   repeat (first | refine zz ?_ | refine zx fun _=> ?_)
   refine run_sub' (hnext _ _ _ ⟨hlt,rfl, ?_,rfl,rfl⟩) ⟨lk_succ rfl (by omega),rfl,trivial⟩
   intro y hy
   rw [take_snoc hm] at hy
   rcases List.mem_append.1 hy with hy | hy
   ·exact hall y hy
   ·rw [List.mem_singleton.1 hy];exact hgp
 have hge:j=x.gives.len:=by simp at h;omega
 rw [hge,List.take_of_length_le (by omega)] at hall
 have hr3:r=true↔ ∀m∈x.steps.xs,SpP m.sp:=by
  rw [hr2]
  exact ⟨fun q=>q.2,fun q=>⟨hall,q⟩⟩
 clear hnext h hr2
 repeat (first | refine zz ?_ | refine zx fun _=> ?_)
 refine run_loopN (fun j σ1 M1 L1=>j≤x.steps.len∧M=M1∧(∀m∈x.steps.xs.take j,SpP m.sp)∧L1=(bn,Obj.cells ⟨[.bool o,.bool au,.bool n,.bool g,.bool t,.bool y,.bool s]⟩ 119 (0,0))::(bx,Obj.cells ⟨axC x⟩ 28 (0,0))::L∧σ1= [(6,.int .i64 (j:Int)),(1,.pointer (some ⟨bx,0,none⟩))]) x.steps.len [(6,.int .i64 ((0:Nat):Int)),(1,.pointer (some ⟨bx,0,none⟩))] ?_ ⟨Nat.zero_le _,rfl,by simp,rfl,rfl⟩ (fun j _ _ _ h=>h.1) ?_
 ·exact ⟨rfl,rfl,trivial⟩
 rintro i _ _ _ ⟨hi,rfl,halls,rfl,rfl⟩ hnext
 repeat (first | refine zz ?_ | refine zx fun _=> ?_)
 refine run_cond rfl (fun h=> ?_) (fun h=> ?_)
 ·have hlt:i<x.steps.len:=by simpa using h
  obtain ⟨b,off,m,hma,hm,hc⟩:=SSr.at_ hx.steps.sl hlt
  have hv:x.steps.v= .slice (some ⟨b,off,none⟩) x.steps.len x.steps.cap:=by rw [←hma];rfl
  have hmo:=hx.steps.each m (List.mem_of_getElem? hm)
  repeat (first | refine zz ?_ | refine zx fun _=> ?_)
  refine runL_as 158 (.slice (some ⟨b,off,none⟩) x.steps.len x.steps.cap) rfl hv ?_
  obtain ⟨rm,hrm⟩: ∃rm:Bool,rm=true↔SpP m.sp:=by
   by_cases hq:SpP m.sp
   ·exact ⟨true,by simp [hq]⟩
   ·exact ⟨false,by simp [hq]⟩
  repeat (first | refine zz ?_ | refine zx fun _=> ?_ | refine runL_q (qt_indexN tok rfl rfl rfl rfl (fun _=>by omega)) rfl rfl rfl ?_ | refine runL_g rfl rfl (qt_indexN tok rfl rfl rfl rfl (fun _=>by omega)) rfl rfl rfl rfl rfl ?_ | refine runL_q (qt_ldM tok rfl hc rfl) rfl rfl rfl ?_ | refine runL_g rfl rfl (qt_ldM tok rfl hc rfl) rfl rfl rfl rfl rfl ?_ | refine runL_q (qt_ldM0 tok rfl hc rfl) rfl rfl rfl ?_ | refine runL_g rfl rfl (qt_ldM0 tok rfl hc rfl) rfl rfl rfl rfl rfl ?_ | refine runL_q (qt_callF rfl (fun _=>refMayStep_ok _ _ m hmo rm hrm)) rfl rfl rfl ?_)
  refine run_cond rfl (fun h=> ?_) (fun h=> ?_)
  ·have hno: ¬SpP m.sp:=fun e=>by have h1:=hrm.2 e;rw [h1] at h;cases h
   have hrf:r=false:=by
    cases r with
    | false=>rfl
    | true=>exact absurd (hr3.1 rfl m (List.mem_of_getElem? hm)) hno
   subst hrf
   repeat (first | refine zz ?_ | refine zx fun _=> ?_)
   exact run_ret hC (rs:= [.tmp 2]) rfl (resT rfl resN) (fun _ h=>h.drop.drop) ⟨rfl,rfl,rfl⟩
  ·have hgp:SpP m.sp:=hrm.1 (by simpa using h)
   repeat (first | refine zz ?_ | refine zx fun _=> ?_)
   refine run_sub' (hnext _ _ _ ⟨hlt,rfl, ?_,rfl,rfl⟩) ⟨lk_succ rfl (by omega),rfl,trivial⟩
   intro y hy
   rw [take_snoc hm] at hy
   rcases List.mem_append.1 hy with hy | hy
   ·exact halls y hy
   ·rw [List.mem_singleton.1 hy];exact hgp
 have hge2:i=x.steps.len:=by simp at h;omega
 rw [hge2,List.take_of_length_le (by omega)] at halls
 have hrt:r=true:=hr3.2 halls
 subst hrt
 repeat (first | refine zz ?_ | refine zx fun _=> ?_)
 exact run_ret hC (rs:= [.tmp 2]) rfl (resT rfl resN) (fun _ h=>h.drop.drop) ⟨rfl,rfl,rfl⟩
theorem stepT_sz {x:Sp} (h:SpP x):(stepT x).size≤1400000:=by
 have h1:=kW_sz x.do_
 have h2:=fsB_sz h (kO x.do_)
 have h3:=tailV_sz h (tail_some h)
 have h4:(kO x.do_).length≤3:=by
  unfold kO
  repeat' split
  all_goals decide
 rw [stepT,app_size,app_size];omega
theorem seqC_sz {c:Nat} : ∀(l:List ByteArray) (f:Bool),(∀t∈l,t.size≤c)→(seqC plusB f l).size≤(c+3)*l.length
 | [],_,_=>Nat.zero_le _
 | x::l,f,h=>by
   have h1:=h x List.mem_cons_self
   have h2:=seqC_sz l false fun t ht=>h t (List.mem_cons_of_mem _ ht)
   have h3:plusB.size=3:=rfl
   have h4:(if f=true then x else plusB++x).size≤c+3:=by
    split
    ·omega
    ·rw [app_size];omega
   rw [seqC,app_size,List.length_cons,Nat.mul_add];omega
theorem rsteps_ok (M:Mem) (L:HL) (hG:G38 M) (S:SSr) (hS:SsOk M S) (hp: ∀x∈S.xs.map Sr.sp,SpP x) (h64:S.xs.length≤64):TrQ Tryz.prog 41 [S.v] M L (.string (stepsT (S.xs.map Sr.sp))):=by
 have hlen:=hS.len
 have hlt6:=hS.lt
 have hst: ∀x∈S.xs,(stepT x.sp).size≤1400000:=fun x hx=>stepT_sz (hp _ (List.mem_map_of_mem hx))
 have hall: ∀j,(seqC plusB true ((S.xs.take j).map fun x=>stepT x.sp)).size≤1400003*j:=fun j=>by
  refine Nat.le_trans (seqC_sz (c:=1400000) _ _ fun t ht=> ?_) ?_
  ·obtain ⟨x,hx,rfl⟩:=List.mem_map.1 ht
   exact hst x (List.mem_of_mem_take hx)
  ·rw [List.length_map,List.length_take]
   exact Nat.mul_le_mul_left _ (Nat.min_le_left _ _)
 have hT:S.xs.map Sr.sp≠ []→stepsT (S.xs.map Sr.sp)=seqC plusB true (S.xs.map fun x=>stepT x.sp):=fun h=>by
  rw [stepsT,if_neg h,List.map_map];rfl
 have hT0:S.xs.map Sr.sp= []→stepsT (S.xs.map Sr.sp)=wNothing:=fun h=>by rw [stepsT,if_pos h]
 have hcall:=fun (L:HL) (x:Sr) (hx:x∈S.xs)=>refStep_ok M L hG x (hS.each x hx) (hp _ (List.mem_map_of_mem hx))
 generalize hR:stepsT (S.xs.map Sr.sp)=R at*
 have hnl:S.xs.map Sr.sp= []↔S.len=0:=by rw [List.map_eq_nil_iff,←List.length_eq_zero_iff,hlen]
 rw [hnl] at hT0
 have hT:S.len≠0→R=seqC plusB true (S.xs.map fun x=>stepT x.sp):=fun h=>hT fun e=>h (hnl.1 e)
 clear hR hnl
 have hcall2: ∀(L:HL) (x:Sr),x∈S.xs→TrQ Tryz.prog 79 [.agg ⟨srC x⟩] M L (.tuple ⟨[.string (stepT x.sp),.agg ⟨srC (bareR x)⟩]⟩):=hcall
 clear hcall
 generalize hf:(fun x:Sr=>stepT x.sp)=f at*
 have hfx: ∀x:Sr,stepT x.sp=f x:=fun x=>by rw [←hf]
 simp only [hfx] at hst hcall2
 clear hfx hf
 refine Tr.intro 32 Tryz.func41 rfl rfl Tryz.call41 rfl ?_;intro C hC hro
 repeat (first | refine yy ?_ | refine yx fun _=> ?_)
 refine run_cond (t:=(S.len:Int)==0) rfl (fun h0=> ?_) (fun h0=> ?_)
 ·have h0':S.len=0:=by simpa using h0
  repeat (first | refine yy ?_ | refine yx fun _=> ?_)
  exact run_ret hC (rs:= [.tmp 2]) rfl (resT rfl resN) (fun _ h=>h) ⟨by rw [hT0 h0'];rfl,rfl,rfl⟩
 have h0':S.len≠0:=by simpa using h0
 repeat (first | refine yy ?_ | refine yx fun _=> ?_)
 refine run_loopN (fun j σ1 M2 L2=>j≤S.len∧M=M2∧L=L2∧σ1= [(4,iv j),(3,.string (seqC plusB true ((S.xs.take j).map f))),(0,S.v)]) S.len [(4,iv 0),(3,.string (seqC plusB true ((S.xs.take 0).map f))),(0,S.v)] ?_ ⟨Nat.zero_le _,rfl,rfl,rfl⟩ (fun j _ _ _ h=>h.1) ?_
 ·exact ⟨rfl,rfl,rfl,trivial⟩
 rintro j _ _ _ ⟨hj,rfl,rfl,rfl⟩ hnext
 repeat (first | refine yy ?_ | refine yx fun _=> ?_)
 refine run_cond (t:=decide ((j:Int)<(S.len:Int))) rfl (fun h2=> ?_) (fun h2=> ?_)
 ·have hlt:j<S.len:=by have:=of_decide_eq_true h2;omega
  obtain ⟨b,off,m,hma,hm,hc⟩:=SSr.at_ hS.sl hlt
  have hv:S.v= .slice (some ⟨b,off,none⟩) S.len S.cap:=by rw [←hma];rfl
  have hmm:=List.mem_of_getElem? hm
  have hmz:=hst m hmm
  have hq:=fun L=>hcall2 L m hmm
  have hlj:=hall j
  have hsn:=seqC_snoc plusB (f m) ((S.xs.take j).map f) true
  rw [←List.map_singleton,←List.map_append,←take_snoc hm] at hsn
  have hp3:plusB.size=3:=rfl
  have hacc:(if j=0 then seqC plusB true ((S.xs.take j).map f)else seqC plusB true ((S.xs.take j).map f)++plusB)++f m=seqC plusB true ((S.xs.take (j+1)).map f):=by
   rw [hsn]
   by_cases h0:j=0
   ·subst h0;rfl
   ·have he:((S.xs.take j).map f).isEmpty=false:=by
     rw [List.isEmpty_eq_false_iff,ne_eq,List.map_eq_nil_iff,List.take_eq_nil_iff]
     rintro (h | h)
     ·exact h0 h
     ·rw [h] at hlen;simp at hlen;omega
    rw [if_neg h0,he,app_assoc];rfl
  generalize bareR m=y at*
  generalize f m=u at*
  refine run_as 0 (.slice (some ⟨b,off,none⟩) S.len S.cap) rfl hv ?_
  repeat (first | refine yy ?_ | refine yx fun _=> ?_ | refine qc (hq _) ?_)
  rename_i b6
  generalize hQ:seqC plusB true ((S.xs.take j).map f)=Q at*
  refine run_condI (fun σ' M' L'=>M=M'∧L'=(b6,.cells ⟨srC y⟩ 60 (0,0))::L∧σ'= [(3,.string (if j=0 then Q else Q++plusB)),(5,.string u),(4,iv j),(0,.slice (some ⟨b,off,none⟩) S.len S.cap)]) (t:=decide ((j:Int)>0)) rfl (fun h hk=> ?_) (fun h hk=> ?_) ?_
  ·have hj0:j≠0:=by have:=of_decide_eq_true h;omega
   have hcc:Q.size+plusB.size<4611686018427387904:=by omega
   refine yy ?_
   refine yy ?_
   refine yy ?_
   refine yy ?_
   refine yy ?_
   exact run_sub' (hk _ _ _ ⟨rfl,rfl,rfl⟩) ⟨by rw [if_neg hj0];rfl,rfl,rfl,rfl,trivial⟩
  ·have hj0:j=0:=by have:=of_decide_eq_false h;omega
   refine yy ?_
   exact run_sub' (hk _ _ _ ⟨rfl,rfl,rfl⟩) ⟨by rw [if_pos hj0];rfl,rfl,rfl,rfl,trivial⟩
  rintro _ _ _ ⟨rfl,rfl,rfl⟩
  have hcc2:(if j=0 then Q else Q++plusB).size+u.size<4611686018427387904:=by
   split
   ·omega
   ·rw [app_size];omega
  repeat (first | refine yy ?_ | refine yx fun _=> ?_ | refine vq ?_ (qt_concat rfl rfl hcc2))
  refine run_mem (fun _ h=>h.drop) ?_
  exact run_sub' (hnext _ _ _ ⟨hlt,rfl,rfl,rfl⟩) ⟨lk_succ rfl (by omega),by rw [←hacc];rfl,by rw [hv];rfl,trivial⟩
 ·have hge:j=S.len:=by have:=of_decide_eq_false h2;omega
  rw [hge,List.take_of_length_le (by omega),←hT h0']
  repeat (first | refine yy ?_ | refine yx fun _=> ?_)
  exact run_ret hC (rs:= [.tmp 2]) rfl (resT rfl resN) (fun _ h=>h) ⟨rfl,rfl,rfl⟩
theorem rmay_ok (M:Mem) (L:HL) (hG:G38 M) (S:SStr) (hS:StOk M S) (hz: ∀x∈S.xs,x.size<1000000) (x:Ax) (hx:AxOk M x) (r:Bool) (hr:r=true↔rollB S.xs=true∧AcP x.aa∧MayL S.xs.length x.aa):TrQ Tryz.prog 37 [S.v,.agg ⟨axC x⟩] M L (.bool r):=by
 have hlen:=hS.len
 have l1:=hx.gives.len
 have l3:=hx.steps.len
 have n1:=hx.gives.2
 have n3:=hx.steps.lt
 have hroll:=fun L=>refRoll_ok M L S hS hz
 obtain ⟨rA,hrA⟩: ∃rA:Bool,rA=true↔AcP x.aa:=by
  by_cases h:AcP x.aa
  ·exact ⟨true,by simp [h]⟩
  ·exact ⟨false,by simp [h]⟩
 have hmay:=fun L=>refMay_ok M L x hx rA hrA
 have hOf0:=fun L=>refOf_ok M L x.do_
 obtain ⟨o,au,n,g,t,y,s,hof,f1,f2,f3,f4,f5,f6,f7⟩:=of_ex x.do_
 have hOf: ∀L',TrQ Tryz.prog 78 [.int .u8 x.do_] M L' (.tuple ⟨[.agg ⟨[.bool o,.bool au,.bool n,.bool g,.bool t,.bool y,.bool s]⟩,.bool (decide (1≤x.do_∧x.do_≤10))]⟩):=by
  intro L'
  have:=hOf0 L'
  rw [hof] at this
  exact this
 clear hOf0 hof
 generalize rollB S.xs=rb at*
 have hlen':(S.xs.length:Int)=(S.len:Int):=by rw [hlen]
 rw [hlen'] at hr
 have hrf: ¬(rb=true∧AcP x.aa∧MayL S.len x.aa)→r=false:=fun h=>by
  cases r with
  | false=>rfl
  | true=>exact absurd (hr.1 rfl) h
 refine Tr.intro 97 Tryz.func37 rfl rfl Tryz.call37 rfl ?_;intro C hC hro
 repeat (first | refine yy ?_ | refine yx fun _=> ?_ | refine qc (hroll _) ?_ | refine gc (hmay _) ?_)
 rename_i b3
 refine run_cond (t:= !rb|| !rA) rfl (fun h=> ?_) (fun h=> ?_)
 ·have hf:=hrf fun q=>by
   have h2:=hrA.2 q.2.1
   rw [q.1,h2] at h;cases h
  repeat (first | refine yy ?_ | refine yx fun _=> ?_)
  exact run_ret hC (rs:= [.tmp 4]) rfl (resT rfl resN) (fun _ h=>h.drop) ⟨by rw [hf];rfl,rfl,rfl⟩
 simp only [Bool.or_eq_false_iff,Bool.not_eq_false'] at h
 obtain ⟨hrb,hra⟩:=h
 have hac:=hrA.1 hra
 have hk:=hac.fit.do_
 have hsp:=hac.fit.steps.2
 have hr2:r=true↔MayL S.len x.aa:=by rw [hr];exact ⟨fun q=>q.2.2,fun q=>⟨hrb,hac,q⟩⟩
 have hrf2: ¬MayL S.len x.aa→r=false:=fun h=>hrf fun q=>h q.2.2
 have hk':1≤x.do_∧x.do_≤10:=hk
 have f1:=f1 hk'
 have f2:=f2 hk'
 have f5:=f5 hk'
 clear hr hrf f3 f4 f6 f7 hmay hroll hrA
 repeat (first | refine yy ?_ | refine yx fun _=> ?_ | refine qc (hOf _) ?_)
 rename_i b5
 refine run_cond (t:=((o&&decide (x.org≥(S.len:Int)))||(au&&decide (x.auditor≥(S.len:Int))))||(t&&decide (x.txn.coord≥(S.len:Int)))) rfl (fun h=> ?_) (fun h=> ?_)
 ·have hf:=hrf2 fun q=>by
   simp only [Bool.or_eq_true,Bool.and_eq_true,decide_eq_true_eq] at h
   rcases h with (⟨h1,h2⟩ | ⟨h1,h2⟩) | ⟨h1,h2⟩
   ·have:=q.org (f1.1 h1);have e:x.aa.org=x.org:=rfl;omega
   ·have:=q.aud (f2.1 h1);have e:x.aa.auditor=x.auditor:=rfl;omega
   ·have:=q.tx (f5.1 h1);have e:x.aa.txn.coord=x.txn.coord:=rfl;omega
  repeat (first | refine yy ?_ | refine yx fun _=> ?_)
  exact run_ret hC (rs:= [.tmp 4]) rfl (resT rfl resN) (fun _ h=>h.drop.drop) ⟨by rw [hf];rfl,rfl,rfl⟩
 have hbase:(x.do_≠4→x.org<(S.len:Int))∧(x.do_=1→x.auditor<(S.len:Int))∧(x.do_=2∨x.do_=9→x.txn.coord<(S.len:Int)):=by
  simp only [Bool.or_eq_false_iff,Bool.and_eq_false_iff,decide_eq_false_iff_not] at h
  obtain ⟨⟨h1,h2⟩,h3⟩:=h
  refine ⟨fun q=> ?_,fun q=> ?_,fun q=> ?_⟩
  ·rcases h1 with h1 | h1
   ·rw [f1.2 q] at h1;cases h1
   ·omega
  ·rcases h2 with h2 | h2
   ·rw [f2.2 q] at h2;cases h2
   ·omega
  ·rcases h3 with h3 | h3
   ·rw [f5.2 q] at h3;cases h3
   ·omega
 clear h f1 f2 f5 hOf
 repeat (first | refine yy ?_ | refine yx fun _=> ?_)
 refine run_loopN (fun j σ1 M1 L1=>j≤x.gives.len∧M=M1∧(∀m∈x.gives.xs.take j,m.org<(S.len:Int))∧L1=(b5,Obj.cells ⟨[.bool o,.bool au,.bool n,.bool g,.bool t,.bool y,.bool s]⟩ 119 (0,0))::(b3,Obj.cells ⟨axC x⟩ 28 (0,0))::L∧σ1= [(7,iv j),(3,pt b3),(0,S.v)]) x.gives.len [(7,iv 0),(3,pt b3),(0,S.v)] ?_ ⟨Nat.zero_le _,rfl,(fun _ h=>by cases h),rfl,rfl⟩ (fun j _ _ _ h=>h.1) ?_
 ·exact ⟨rfl,rfl,rfl,trivial⟩
 rintro j _ _ _ ⟨hj,rfl,hall,rfl,rfl⟩ hnext
 repeat (first | refine yy ?_ | refine yx fun _=> ?_)
 refine run_cond (t:=decide ((j:Int)<(x.gives.len:Int))) rfl (fun h=> ?_) (fun h=> ?_)
 ·have hlt:j<x.gives.len:=by have:=of_decide_eq_true h;omega
  obtain ⟨b,off,m,hma,hm,hc⟩:=SMb.at_ hx.gives.1 hlt
  have hv:x.gives.v= .slice (some ⟨b,off,none⟩) x.gives.len x.gives.cap:=by rw [←hma];rfl
  repeat (first | refine yy ?_ | refine yx fun _=> ?_)
  refine runL_as 65 (.slice (some ⟨b,off,none⟩) x.gives.len x.gives.cap) rfl hv ?_
  repeat (first | refine yy ?_ | refine yx fun _=> ?_)
  refine run_cond (t:=decide (m.org≥(S.len:Int))) rfl (fun h=> ?_) (fun h=> ?_)
  ·have hf:=hrf2 fun q=>by
    have:=q.gives m (List.mem_of_getElem? hm)
    have:=of_decide_eq_true h
    omega
   repeat (first | refine yy ?_ | refine yx fun _=> ?_)
   exact run_ret hC (rs:= [.tmp 4]) rfl (resT rfl resN) (fun _ h=>h.drop.drop) ⟨by rw [hf];rfl,rfl,rfl⟩
  ·have hmo:=of_decide_eq_false h
   repeat (first | refine yy ?_ | refine yx fun _=> ?_)
   refine run_sub' (hnext _ _ _ ⟨hlt,rfl, ?_,rfl,rfl⟩) ⟨lk_succ rfl (by omega),rfl,rfl,trivial⟩
   intro z hz
   rw [take_snoc hm] at hz
   rcases List.mem_append.1 hz with hz | hz
   ·exact hall z hz
   ·rw [List.mem_singleton.1 hz];omega
 have hge:j=x.gives.len:=by have:=of_decide_eq_false h;omega
 rw [hge,List.take_of_length_le (by omega)] at hall
 clear hnext h
 repeat (first | refine yy ?_ | refine yx fun _=> ?_)
 refine run_loopN (fun j σ1 M1 L1=>j≤x.steps.len∧M=M1∧(∀m∈x.steps.xs.take j,bareS m.sp=true)∧L1=(b5,Obj.cells ⟨[.bool o,.bool au,.bool n,.bool g,.bool t,.bool y,.bool s]⟩ 119 (0,0))::(b3,Obj.cells ⟨axC x⟩ 28 (0,0))::L∧σ1= [(8,iv j),(3,pt b3)]) x.steps.len [(8,iv 0),(3,pt b3)] ?_ ⟨Nat.zero_le _,rfl,(fun _ h=>by cases h),rfl,rfl⟩ (fun j _ _ _ h=>h.1) ?_
 ·exact ⟨rfl,rfl,trivial⟩
 rintro i _ _ _ ⟨hi,rfl,halls,rfl,rfl⟩ hnext
 repeat (first | refine yy ?_ | refine yx fun _=> ?_)
 refine run_cond (t:=decide ((i:Int)<(x.steps.len:Int))) rfl (fun h=> ?_) (fun h=> ?_)
 ·have hlt:i<x.steps.len:=by have:=of_decide_eq_true h;omega
  obtain ⟨b,off,m,hma,hm,hc⟩:=SSr.at_ hx.steps.sl hlt
  have hv:x.steps.v= .slice (some ⟨b,off,none⟩) x.steps.len x.steps.cap:=by rw [←hma];rfl
  have hmm:=List.mem_of_getElem? hm
  have hmo:=hx.steps.each m hmm
  have hq:=fun L=>refStep_ok M L hG m hmo (hsp m.sp (List.mem_map_of_mem hmm))
  have hss:=fun L=>refSameStep_ok M L m (bareR m) hmo (bareR_ok hmo)
  have hiff:sameSp m.sp (bareR m).sp=true↔bareS m.sp=true:=by rw [sameSp_iff,bareR_sp,bareP_iff]
  generalize sameSp m.sp (bareR m).sp=rs at*
  generalize bareR m=z at*
  generalize stepT m.sp=u at*
  repeat (first | refine yy ?_ | refine yx fun _=> ?_)
  refine runL_as 82 (.slice (some ⟨b,off,none⟩) x.steps.len x.steps.cap) rfl hv ?_
  repeat (first | refine yy ?_ | refine yx fun _=> ?_ | refine qc (hq _) ?_)
  rename_i b10
  refine dd ?_
  iterate 3 refine yd ?_
  refine pr_as 90 (.slice (some ⟨b,off,none⟩) x.steps.len x.steps.cap) rfl hv ?_
  repeat (first | refine yy ?_ | refine dd ?_ | refine yd ?_ | refine yx fun _=> ?_ | refine pc (hss _) ?_)
  refine run_cond (t:= !rs) rfl (fun h=> ?_) (fun h=> ?_)
  ·have hf:=hrf2 fun q=>by
    have:=hiff.2 (q.steps m.sp (List.mem_map_of_mem hmm))
    rw [this] at h;cases h
   repeat (first | refine yy ?_ | refine yx fun _=> ?_)
   exact run_ret hC (rs:= [.tmp 4]) rfl (resT rfl resN) (fun _ h=>h.drop.drop.drop) ⟨by rw [hf];rfl,rfl,rfl⟩
  ·have hb:bareS m.sp=true:=hiff.1 (by simpa using h)
   repeat (first | refine yy ?_ | refine yx fun _=> ?_)
   refine run_mem (fun _ h=>h.drop) ?_
   refine run_sub' (hnext _ _ _ ⟨hlt,rfl, ?_,rfl,rfl⟩) ⟨lk_succ rfl (by omega),rfl,trivial⟩
   intro z hz
   rw [take_snoc hm] at hz
   rcases List.mem_append.1 hz with hz | hz
   ·exact halls z hz
   ·rw [List.mem_singleton.1 hz];exact hb
 have hge2:i=x.steps.len:=by have:=of_decide_eq_false h;omega
 rw [hge2,List.take_of_length_le (by omega)] at halls
 have ht:r=true:=hr2.2 ⟨hbase.1,hbase.2.1,hbase.2.2,hall,fun z hz=>by
  obtain ⟨m,hm,rfl⟩:=List.mem_map.1 hz
  exact halls m hm⟩
 repeat (first | refine yy ?_ | refine yx fun _=> ?_)
 exact run_ret hC (rs:= [.tmp 4]) rfl (resT rfl resN) (fun _ h=>h.drop.drop) ⟨by rw [ht];rfl,rfl,rfl⟩
theorem rline_ok (M:Mem) (L:HL) (hG:G38 M) (S:SStr) (hS:StOk M S) (hz: ∀x∈S.xs,x.size<1000000) (x:Ax) (hx:AxOk M x):TrQ Tryz.prog 13 [S.v,.agg ⟨axC x⟩] M L (.tuple ⟨[.string (lineA S.xs x.aa).1,.int .i64 (lineA S.xs x.aa).2]⟩):=by
 obtain ⟨hd1,hd2⟩:=line_doc S.xs x.aa
 by_cases hq:rollB S.xs=true∧AcP x.aa∧MayL S.xs.length x.aa
 rotate_left
 ·have hm:=fun L=>rmay_ok M L hG S hS hz x hx false (by simp [hq])
  rw [hd2 hq]
  clear hd1 hd2 hq
  refine Tr.intro 143 Tryz.func13 rfl rfl Tryz.call13 rfl ?_;intro C hC hro
  repeat (first | refine yy ?_ | refine yx fun _=> ?_ | refine run_cond (t:=true) rfl (fun _=> ?_) (fun h=>by cases h) | refine run_cond (t:=false) rfl (fun h=>by cases h) (fun _=> ?_) | refine qc (hm _) ?_)
  exact run_ret hC (rs:= [.tmp 4,.tmp 5]) rfl (resT rfl (resT rfl resN)) (fun _ h=>h.drop) ⟨rfl,rfl,rfl⟩
 have hm:=fun L=>rmay_ok M L hG S hS hz x hx true (by simp [hq])
 rw [hd1 hq]
 clear hd1 hd2
 obtain ⟨_,hac,hml⟩:=hq
 have hfit:=hac.fit
 have hlen:=hS.len
 have hat:=fun {k:Nat} (h:k<S.len)=>SStr.at_ hS.1 h
 have hnat: ∀ {k:Nat} {m:ByteArray},S.xs[k]? =some m→nameT S.xs (k:Int)=m:=fun h=>by rw [nameT,Int.toNat_natCast,h];rfl
 have htx:=fun L (h:(x.aa.do_=2∨x.aa.do_=9))=>rtxn_ok M L hG S hS hz x.txn ⟨hfit.tx.1,hml.tx h⟩ hfit.tx.2.1 hfit.tx.2.2
 have htz:(txnT S.xs x.txn).size≤1000100:=by
  have h1:=dgB_sz hfit.tx.2.1.2
  have h2:=dgB_sz hfit.tx.2.2.2
  have h3:slB.size=1:=rfl
  have h4:(nameT S.xs x.txn.coord).size≤1000000:=by
   unfold nameT
   cases hg:S.xs[x.txn.coord.toNat]? with
   | none=>exact Nat.zero_le _
   | some y=>exact Nat.le_of_lt (hz y (List.mem_of_getElem? hg))
  have e1:x.aa.txn=x.txn:=rfl
  rw [e1] at h1 h2
  simp only [txnT,app_size];omega
 have hst:=fun L=>rsteps_ok M L hG x.steps hx.steps hfit.steps.2 (by have:=hfit.steps.1;simpa [Ax.aa] using this)
 have hsz:(stepsT (x.steps.xs.map Sr.sp)).size≤90000000:=by
  have h6:stepsV x.aa.steps=some (stepsT x.aa.steps):=by rw [stepsV_some hfit.steps.2,if_pos hml.steps]
  exact stepsV_sz hfit.steps.1 hfit.steps.2 h6
 have hnum:=fun L=>rnum_ok M L hG x.n hfit.n.1 (by have:=hfit.n.2;have e:x.aa.n=x.n:=rfl;omega)
 have hnz:=dgB_sz (n:=x.n) (by have:=hfit.n.2;have e:x.aa.n=x.n:=rfl;omega)
 have hdo:=hfit.do_
 have horg:x.aa.do_≠4→ ∃k:Nat,x.org=(k:Int)∧k<S.len:=fun h=>by
  have h1:=hml.org h
  obtain ⟨k,hk⟩:=Int.eq_ofNat_of_zero_le hfit.org.1
  exact ⟨k,hk,by omega⟩
 have hgvs:=hfit.gives
 have hgvo:=hml.gives
 have haud:x.aa.do_=1→ ∃k:Nat,x.auditor=(k:Int)∧k<S.len:=fun h=>by
  have h1:=hml.aud h
  obtain ⟨k,hk⟩:=Int.eq_ofNat_of_zero_le hfit.aud.1
  exact ⟨k,hk,by omega⟩
 clear hac hfit hml
 obtain ⟨sa,sn,sc,xs⟩:=S
 obtain ⟨d,og,au,n,gv,tx,ye,st⟩:=x
 simp only [Ax.aa,SStr.v] at*
 have hd10:d=1∨d=2∨d=3∨d=4∨d=5∨d=6∨d=7∨d=8∨d=9∨d=10:=by omega
 rcases hd10 with rfl | rfl | rfl | rfl | rfl | rfl | rfl | rfl | rfl | rfl
 ·obtain ⟨k,rfl,hk⟩:=horg (by decide)
  obtain ⟨ka,rfl,hka⟩:=haud rfl
  obtain ⟨b,off,nm,rfl,hnm,hc⟩:=hat hk
  obtain ⟨b',off',am,e',ham,hca⟩:=hat hka
  cases e'
  have hnz2:=hz nm (List.mem_of_getElem? hnm)
  have haz:=hz am (List.mem_of_getElem? ham)
  have he:lineT xs ⟨1,(k:Int),(ka:Int),n,gv.xs,tx,ye,st.xs.map Sr.sp⟩=((nm++vBegins)++am)++givesT xs true gv.xs:=by
   rw [show lineT xs ⟨1,(k:Int),(ka:Int),n,gv.xs,tx,ye,st.xs.map Sr.sp⟩=nameT xs (k:Int)++((vBegins++nameT xs (ka:Int))++givesT xs true gv.xs)from rfl,hnat hnm,hnat ham]
   simp only [app_assoc]
  rw [he]
  clear he htx htz hst hsz hnum hnz
  have h12:vBegins.size=12:=rfl
  have hc1:nm.size+vBegins.size<4611686018427387904:=by omega
  have hc2:(nm++vBegins).size+am.size<4611686018427387904:=by rw [app_size];omega
  have hgl:gv.xs.length=gv.len:=hx.gives.len
  have hg6:=hgvs.1
  have hpay: ∀m∈gv.xs,m.digest.size<1000000:=fun m hm=>by
   have h1:=(hgvs.2 m hm).2
   have h2:m.digest.size<1099511627776:=hx.pay m hm
   have:=((mayB_iff (by omega)).1 (by rw [mayB,h1];rfl:mayB m.digest=true)).2
   omega
  have hgo: ∀m∈gv.xs,∃k:Nat,m.org=(k:Int)∧k<sn:=fun m hm=>by
   have h1:=hgvo m hm
   obtain ⟨k,hk⟩:=Int.eq_ofNat_of_zero_le (rIn (hgvs.2 m hm).1).1
   exact ⟨k,hk,by omega⟩
  clear hgvs hgvo
  refine Tr.intro 143 Tryz.func13 rfl rfl Tryz.call13 rfl ?_;intro C hC hro
  repeat (first | refine yy ?_ | refine yx fun _=> ?_ | refine run_cond (t:=true) rfl (fun _=> ?_) (fun h=>by cases h) | refine run_cond (t:=false) rfl (fun h=>by cases h) (fun _=> ?_) | refine qc (hm _) ?_)
  rename_i b3 _ _ _
  generalize hBase:(nm++vBegins)++am=base
  have hbz:base.size≤3000000:=by rw [←hBase,app_size,app_size];omega
  refine run_loopN (fun j σ1 M1 L1=>j≤gv.len∧M=M1∧L1=(b3,Obj.cells ⟨axC ⟨1,(k:Int),(ka:Int),n,gv,tx,ye,st⟩⟩ 28 (0,0))::L∧ ∃s:ByteArray,s=base++givesT xs true (gv.xs.take j)∧s.size≤3000000+2400000*j∧σ1= [(8,iv j),(7,.string s),(3,pt b3),(0,.slice (some ⟨b,off,none⟩) sn sc)]) gv.len [(8,iv 0),(7,.string base),(3,pt b3),(0,.slice (some ⟨b,off,none⟩) sn sc)] ?_ ⟨Nat.zero_le _,rfl,rfl,base,(app_nil _).symm,hbz,rfl⟩ (fun j _ _ _ h=>h.1) ?_
  ·exact ⟨rfl,by rw [←hBase];rfl,rfl,rfl,trivial⟩
  rintro j _ _ _ ⟨hj,rfl,rfl,s,hs,hsz,rfl⟩ hnext
  repeat (first | refine yy ?_ | refine yx fun _=> ?_)
  refine run_cond (t:=decide ((j:Int)<(gv.len:Int))) rfl (fun h=> ?_) (fun h=> ?_)
  ·have hlt:j<gv.len:=by have:=of_decide_eq_true h;omega
   obtain ⟨gb,goff,m,gma,gm,gc⟩:=SMb.at_ hx.gives.1 hlt
   have hv:gv.v= .slice (some ⟨gb,goff,none⟩) gv.len gv.cap:=by
    have gma:gv.a=_:=gma
    rw [←gma];rfl
   have hmm:=List.mem_of_getElem? gm
   obtain ⟨kg,hkg,hkgs⟩:=hgo m hmm
   obtain ⟨b'',off'',gn,e'',hgn,hcg⟩:=hat hkgs
   cases e''
   have hgz:=hz gn (List.mem_of_getElem? hgn)
   have hql:=fun L=>refLine_ok M L m.digest (hpay m hmm)
   have hlz:=lineE_sz (hpay m hmm)
   have hsn:=givesT_snoc xs m (gv.xs.take j) true
   rw [←take_snoc gm,giveT,hkg,hnat hgn] at hsn
   generalize lineE m.digest=e at*
   obtain ⟨mo,md⟩:=m
   simp only at hkg hql hsn
   subst hkg
   have hemp:(true&&(gv.xs.take j).isEmpty)=decide (j=0):=by
    by_cases h0:j=0
    ·subst h0;rfl
    ·rw [decide_eq_false h0,Bool.true_and,List.isEmpty_eq_false_iff,ne_eq,List.take_eq_nil_iff]
     rintro (h | h)
     ·exact h0 h
     ·rw [h] at hgl;simp at hgl;omega
   rw [hemp] at hsn
   repeat (first | refine yy ?_ | refine yx fun _=> ?_)
   refine runL_as 49 (.slice (some ⟨gb,goff,none⟩) gv.len gv.cap) rfl hv ?_
   repeat (first | refine yy ?_ | refine yx fun _=> ?_ | refine qc (hql _) ?_)
   have hcol:colB.size=2:=rfl
   have hsem:semB.size=2:=rfl
   refine run_condI (fun σ' M' L'=>M=M'∧L'=(b3,Obj.cells ⟨axC ⟨1,(k:Int),(ka:Int),n,gv,tx,ye,st⟩⟩ 28 (0,0))::L∧σ'= [(7,.string (s++if decide (j=0)=true then colB else semB)),(9,.string e.1),(8,iv j),(3,pt b3),(0,.slice (some ⟨b,off,none⟩) sn sc)]) (t:=(j:Int)==0) rfl (fun h hk=> ?_) (fun h hk=> ?_) ?_
   ·have hj0:j=0:=by simpa using h
    have hcc:s.size+colB.size<4611686018427387904:=by omega
    iterate 5 refine yy ?_
    exact run_sub' (hk _ _ _ ⟨rfl,rfl,rfl⟩) ⟨by rw [if_pos (decide_eq_true hj0)];rfl,rfl,rfl,rfl,rfl,trivial⟩
   ·have hj0:j≠0:=by simpa using h
    have hcc:s.size+semB.size<4611686018427387904:=by omega
    iterate 5 refine yy ?_
    exact run_sub' (hk _ _ _ ⟨rfl,rfl,rfl⟩) ⟨by rw [if_neg (by simpa using hj0)];rfl,rfl,rfl,rfl,rfl,trivial⟩
   rintro _ _ _ ⟨rfl,rfl,rfl⟩
   generalize hsp:(if decide (j=0)=true then colB else semB)=sp at*
   have hsp2:sp.size=2:=by rw [←hsp];split <;> rfl
   have h1s:sp1.size=1:=rfl
   have q1:(s++sp).size+gn.size<4611686018427387904:=by rw [app_size];omega
   have q2:((s++sp)++gn).size+sp1.size<4611686018427387904:=by rw [app_size,app_size];omega
   have q3:(((s++sp)++gn)++sp1).size+e.1.size<4611686018427387904:=by rw [app_size,app_size,app_size];omega
   have hnew:(((s++sp)++gn)++sp1)++e.1=base++givesT xs true (gv.xs.take (j+1)):=by
    rw [hsn,hs];simp only [app_assoc]
   have hnz3:((((s++sp)++gn)++sp1)++e.1).size≤3000000+2400000*(j+1):=by simp only [app_size];omega
   repeat (first | refine yy ?_ | refine yx fun _=> ?_)
   refine runL_as 66 (.slice (some ⟨gb,goff,none⟩) gv.len gv.cap) rfl hv ?_
   repeat (first | refine yy ?_ | refine yx fun _=> ?_ | refine vq ?_ (qt_concat rfl rfl q1) | refine vq ?_ (qt_concat rfl rfl q2) | refine vq ?_ (qt_concat rfl rfl q3))
   exact run_sub' (hnext _ _ _ ⟨hlt,rfl,rfl,_,hnew,hnz3,rfl⟩) ⟨lk_succ rfl (by omega),rfl,rfl,rfl,trivial⟩
  ·have hge:j=gv.len:=by have:=of_decide_eq_false h;omega
   rw [hge,List.take_of_length_le (by omega)] at hs
   repeat (first | refine yy ?_ | refine yx fun _=> ?_)
   exact run_ret hC (rs:= [.tmp 4,.tmp 5]) rfl (resT rfl (resT rfl resN)) (fun _ h=>h.drop) ⟨by rw [hs,←hBase];rfl,rfl,rfl⟩
 ·obtain ⟨k,rfl,hk⟩:=horg (by decide)
  obtain ⟨b,off,nm,rfl,hnm,hc⟩:=hat hk
  have hnz2:=hz nm (List.mem_of_getElem? hnm)
  have htx:=fun L=>htx L (.inl rfl)
  generalize hT:txnT xs tx=T at*
  cases ye with
  | true=>
    have he:lineT xs ⟨2,(k:Int),au,n,gv.xs,tx,true,st.xs.map Sr.sp⟩=(nm++vYes)++T:=by
     rw [show lineT xs ⟨2,(k:Int),au,n,gv.xs,tx,true,st.xs.map Sr.sp⟩=nameT xs (k:Int)++(vYes++txnT xs tx)from rfl,hnat hnm,hT,app_assoc]
    rw [he]
    clear he
    have hv:vYes.size=13:=rfl
    have hc1:nm.size+vYes.size<4611686018427387904:=by omega
    have hc2:(nm++vYes).size+T.size<4611686018427387904:=by rw [app_size];omega
    refine Tr.intro 143 Tryz.func13 rfl rfl Tryz.call13 rfl ?_;intro C hC hro
    repeat (first | refine yy ?_ | refine yx fun _=> ?_ | refine run_cond (t:=true) rfl (fun _=> ?_) (fun h=>by cases h) | refine run_cond (t:=false) rfl (fun h=>by cases h) (fun _=> ?_) | refine qc (hm _) ?_ | refine qc (htx _) ?_)
    exact run_ret hC (rs:= [.tmp 4,.tmp 5]) rfl (resT rfl (resT rfl resN)) (fun _ h=>h.drop) ⟨rfl,rfl,rfl⟩
  | false=>
    have he:lineT xs ⟨2,(k:Int),au,n,gv.xs,tx,false,st.xs.map Sr.sp⟩=(nm++vNo)++T:=by
     rw [show lineT xs ⟨2,(k:Int),au,n,gv.xs,tx,false,st.xs.map Sr.sp⟩=nameT xs (k:Int)++(vNo++txnT xs tx)from rfl,hnat hnm,hT,app_assoc]
    rw [he]
    clear he
    have hv:vNo.size=12:=rfl
    have hc1:nm.size+vNo.size<4611686018427387904:=by omega
    have hc2:(nm++vNo).size+T.size<4611686018427387904:=by rw [app_size];omega
    refine Tr.intro 143 Tryz.func13 rfl rfl Tryz.call13 rfl ?_;intro C hC hro
    repeat (first | refine yy ?_ | refine yx fun _=> ?_ | refine run_cond (t:=true) rfl (fun _=> ?_) (fun h=>by cases h) | refine run_cond (t:=false) rfl (fun h=>by cases h) (fun _=> ?_) | refine qc (hm _) ?_ | refine qc (htx _) ?_)
    exact run_ret hC (rs:= [.tmp 4,.tmp 5]) rfl (resT rfl (resT rfl resN)) (fun _ h=>h.drop) ⟨rfl,rfl,rfl⟩
 ·obtain ⟨k,rfl,hk⟩:=horg (by decide)
  obtain ⟨b,off,nm,rfl,hnm,hc⟩:=hat hk
  have hnz2:=hz nm (List.mem_of_getElem? hnm)
  have he:lineT xs ⟨3,(k:Int),au,n,gv.xs,tx,ye,st.xs.map Sr.sp⟩=nm++vTicks:=by
   rw [show lineT xs ⟨3,(k:Int),au,n,gv.xs,tx,ye,st.xs.map Sr.sp⟩=nameT xs (k:Int)++vTicks from rfl,hnat hnm]
  rw [he]
  clear he
  have hv:vTicks.size=6:=rfl
  have hc1:nm.size+vTicks.size<4611686018427387904:=by omega
  refine Tr.intro 143 Tryz.func13 rfl rfl Tryz.call13 rfl ?_;intro C hC hro
  repeat (first | refine yy ?_ | refine yx fun _=> ?_ | refine run_cond (t:=true) rfl (fun _=> ?_) (fun h=>by cases h) | refine run_cond (t:=false) rfl (fun h=>by cases h) (fun _=> ?_) | refine qc (hm _) ?_)
  exact run_ret hC (rs:= [.tmp 4,.tmp 5]) rfl (resT rfl (resT rfl resN)) (fun _ h=>h.drop) ⟨rfl,rfl,rfl⟩
 ·have he:lineT xs ⟨4,og,au,n,gv.xs,tx,ye,st.xs.map Sr.sp⟩=(wPost++dgB n)++wComes:=rfl
  rw [he]
  clear he
  have hv:wPost.size=5:=rfl
  have hv2:wComes.size=6:=rfl
  have hc1:wPost.size+(dgB n).size<4611686018427387904:=by omega
  have hc2:(wPost++dgB n).size+wComes.size<4611686018427387904:=by rw [app_size];omega
  refine Tr.intro 143 Tryz.func13 rfl rfl Tryz.call13 rfl ?_;intro C hC hro
  repeat (first | refine yy ?_ | refine yx fun _=> ?_ | refine run_cond (t:=true) rfl (fun _=> ?_) (fun h=>by cases h) | refine run_cond (t:=false) rfl (fun h=>by cases h) (fun _=> ?_) | refine qc (hm _) ?_ | refine qc (hnum _) ?_)
  exact run_ret hC (rs:= [.tmp 4,.tmp 5]) rfl (resT rfl (resT rfl resN)) (fun _ h=>h.drop) ⟨rfl,rfl,rfl⟩
 ·obtain ⟨k,rfl,hk⟩:=horg (by decide)
  obtain ⟨b,off,nm,rfl,hnm,hc⟩:=hat hk
  have hnz2:=hz nm (List.mem_of_getElem? hnm)
  generalize hT:stepsT (st.xs.map Sr.sp)=T at*
  have he:lineT xs ⟨5,(k:Int),au,n,gv.xs,tx,ye,st.xs.map Sr.sp⟩=(nm++vGets)++T:=by
   rw [show lineT xs ⟨5,(k:Int),au,n,gv.xs,tx,ye,st.xs.map Sr.sp⟩=nameT xs (k:Int)++(vGets++stepsT (st.xs.map Sr.sp))from rfl,hnat hnm,hT,app_assoc]
  rw [he]
  clear he
  have hv:vGets.size=6:=rfl
  have hc1:nm.size+vGets.size<4611686018427387904:=by omega
  have hc2:(nm++vGets).size+T.size<4611686018427387904:=by rw [app_size];omega
  refine Tr.intro 143 Tryz.func13 rfl rfl Tryz.call13 rfl ?_;intro C hC hro
  repeat (first | refine yy ?_ | refine yx fun _=> ?_ | refine run_cond (t:=true) rfl (fun _=> ?_) (fun h=>by cases h) | refine run_cond (t:=false) rfl (fun h=>by cases h) (fun _=> ?_) | refine qc (hm _) ?_ | refine qc (hst _) ?_)
  exact run_ret hC (rs:= [.tmp 4,.tmp 5]) rfl (resT rfl (resT rfl resN)) (fun _ h=>h.drop) ⟨rfl,rfl,rfl⟩
 ·obtain ⟨k,rfl,hk⟩:=horg (by decide)
  obtain ⟨b,off,nm,rfl,hnm,hc⟩:=hat hk
  have hnz2:=hz nm (List.mem_of_getElem? hnm)
  have he:lineT xs ⟨6,(k:Int),au,n,gv.xs,tx,ye,st.xs.map Sr.sp⟩=(nm++vStops)++dgB n:=by
   rw [show lineT xs ⟨6,(k:Int),au,n,gv.xs,tx,ye,st.xs.map Sr.sp⟩=nameT xs (k:Int)++(vStops++dgB n)from rfl,hnat hnm,app_assoc]
  rw [he]
  clear he
  have hv:vStops.size=14:=rfl
  have hc1:nm.size+vStops.size<4611686018427387904:=by omega
  have hc2:(nm++vStops).size+(dgB n).size<4611686018427387904:=by rw [app_size];omega
  refine Tr.intro 143 Tryz.func13 rfl rfl Tryz.call13 rfl ?_;intro C hC hro
  repeat (first | refine yy ?_ | refine yx fun _=> ?_ | refine run_cond (t:=true) rfl (fun _=> ?_) (fun h=>by cases h) | refine run_cond (t:=false) rfl (fun h=>by cases h) (fun _=> ?_) | refine qc (hm _) ?_ | refine qc (hnum _) ?_)
  exact run_ret hC (rs:= [.tmp 4,.tmp 5]) rfl (resT rfl (resT rfl resN)) (fun _ h=>h.drop) ⟨rfl,rfl,rfl⟩
 ·obtain ⟨k,rfl,hk⟩:=horg (by decide)
  obtain ⟨b,off,nm,rfl,hnm,hc⟩:=hat hk
  have hnz2:=hz nm (List.mem_of_getElem? hnm)
  have he:lineT xs ⟨7,(k:Int),au,n,gv.xs,tx,ye,st.xs.map Sr.sp⟩=(nm++vCrash)++dgB n:=by
   rw [show lineT xs ⟨7,(k:Int),au,n,gv.xs,tx,ye,st.xs.map Sr.sp⟩=nameT xs (k:Int)++(vCrash++dgB n)from rfl,hnat hnm,app_assoc]
  rw [he]
  clear he
  have hv:vCrash.size=19:=rfl
  have hc1:nm.size+vCrash.size<4611686018427387904:=by omega
  have hc2:(nm++vCrash).size+(dgB n).size<4611686018427387904:=by rw [app_size];omega
  refine Tr.intro 143 Tryz.func13 rfl rfl Tryz.call13 rfl ?_;intro C hC hro
  repeat (first | refine yy ?_ | refine yx fun _=> ?_ | refine run_cond (t:=true) rfl (fun _=> ?_) (fun h=>by cases h) | refine run_cond (t:=false) rfl (fun h=>by cases h) (fun _=> ?_) | refine qc (hm _) ?_ | refine qc (hnum _) ?_)
  exact run_ret hC (rs:= [.tmp 4,.tmp 5]) rfl (resT rfl (resT rfl resN)) (fun _ h=>h.drop) ⟨rfl,rfl,rfl⟩
 ·obtain ⟨k,rfl,hk⟩:=horg (by decide)
  obtain ⟨b,off,nm,rfl,hnm,hc⟩:=hat hk
  have hnz2:=hz nm (List.mem_of_getElem? hnm)
  have he:lineT xs ⟨8,(k:Int),au,n,gv.xs,tx,ye,st.xs.map Sr.sp⟩=nm++vAnew:=by
   rw [show lineT xs ⟨8,(k:Int),au,n,gv.xs,tx,ye,st.xs.map Sr.sp⟩=nameT xs (k:Int)++vAnew from rfl,hnat hnm]
  rw [he]
  clear he
  have hv:vAnew.size=12:=rfl
  have hc1:nm.size+vAnew.size<4611686018427387904:=by omega
  refine Tr.intro 143 Tryz.func13 rfl rfl Tryz.call13 rfl ?_;intro C hC hro
  repeat (first | refine yy ?_ | refine yx fun _=> ?_ | refine run_cond (t:=true) rfl (fun _=> ?_) (fun h=>by cases h) | refine run_cond (t:=false) rfl (fun h=>by cases h) (fun _=> ?_) | refine qc (hm _) ?_)
  exact run_ret hC (rs:= [.tmp 4,.tmp 5]) rfl (resT rfl (resT rfl resN)) (fun _ h=>h.drop) ⟨rfl,rfl,rfl⟩
 ·obtain ⟨k,rfl,hk⟩:=horg (by decide)
  obtain ⟨b,off,nm,rfl,hnm,hc⟩:=hat hk
  have hnz2:=hz nm (List.mem_of_getElem? hnm)
  have htx:=fun L=>htx L (.inr rfl)
  generalize hT:txnT xs tx=T at*
  have he:lineT xs ⟨9,(k:Int),au,n,gv.xs,tx,ye,st.xs.map Sr.sp⟩=(nm++vShows)++T:=by
   rw [show lineT xs ⟨9,(k:Int),au,n,gv.xs,tx,ye,st.xs.map Sr.sp⟩=nameT xs (k:Int)++(vShows++txnT xs tx)from rfl,hnat hnm,hT,app_assoc]
  rw [he]
  clear he
  have hv:vShows.size=7:=rfl
  have hc1:nm.size+vShows.size<4611686018427387904:=by omega
  have hc2:(nm++vShows).size+T.size<4611686018427387904:=by rw [app_size];omega
  refine Tr.intro 143 Tryz.func13 rfl rfl Tryz.call13 rfl ?_;intro C hC hro
  repeat (first | refine yy ?_ | refine yx fun _=> ?_ | refine run_cond (t:=true) rfl (fun _=> ?_) (fun h=>by cases h) | refine run_cond (t:=false) rfl (fun h=>by cases h) (fun _=> ?_) | refine qc (hm _) ?_ | refine qc (htx _) ?_)
  exact run_ret hC (rs:= [.tmp 4,.tmp 5]) rfl (resT rfl (resT rfl resN)) (fun _ h=>h.drop) ⟨rfl,rfl,rfl⟩
 ·obtain ⟨k,rfl,hk⟩:=horg (by decide)
  obtain ⟨b,off,nm,rfl,hnm,hc⟩:=hat hk
  have hnz2:=hz nm (List.mem_of_getElem? hnm)
  generalize hT:stepsT (st.xs.map Sr.sp)=T at*
  have he:lineT xs ⟨10,(k:Int),au,n,gv.xs,tx,ye,st.xs.map Sr.sp⟩=(nm++vJudges)++T:=by
   rw [show lineT xs ⟨10,(k:Int),au,n,gv.xs,tx,ye,st.xs.map Sr.sp⟩=nameT xs (k:Int)++(vJudges++stepsT (st.xs.map Sr.sp))from rfl,hnat hnm,hT,app_assoc]
  rw [he]
  clear he
  have hv:vJudges.size=8:=rfl
  have hc1:nm.size+vJudges.size<4611686018427387904:=by omega
  have hc2:(nm++vJudges).size+T.size<4611686018427387904:=by rw [app_size];omega
  refine Tr.intro 143 Tryz.func13 rfl rfl Tryz.call13 rfl ?_;intro C hC hro
  repeat (first | refine yy ?_ | refine yx fun _=> ?_ | refine run_cond (t:=true) rfl (fun _=> ?_) (fun h=>by cases h) | refine run_cond (t:=false) rfl (fun h=>by cases h) (fun _=> ?_) | refine qc (hm _) ?_ | refine qc (hst _) ?_)
  exact run_ret hC (rs:= [.tmp 4,.tmp 5]) rfl (resT rfl (resT rfl resN)) (fun _ h=>h.drop) ⟨rfl,rfl,rfl⟩
theorem axPay {M:Mem} {ax:Ax} (h:AxOk M ax): ∀m∈ax.aa.gives,m.digest.size<1099511627776:=h.pay
theorem rtpar_ok (M:Mem) (L:HL) (hG:G38 M) (S:SStr) (hS:StOk M S) (hz: ∀x∈S.xs,x.size<1000000) (s:ByteArray) (hs:s.size<900000):Tr Tryz.prog 21 [S.v,.string s] M L (prK (parseA S.xs s) M L):=by
 have hroll:=fun L=>refRoll_ok M L S hS hz
 have hof:=fun L=>rof_ok M L hG S hS s hs
 have hln:=fun (M':Mem) L (hM:M.le M') ax (hax:AxOk M' ax)=>rline_ok M' L (hG.le hM) S (hS.le hM) hz ax hax
 have hpd:=fun (h:rollB S.xs=true) b h1 h2=>parse_doc (names:=S.xs) (s:=s) (b:=b) h h1 h2
 have hpn: ¬rollB S.xs=true→parseA S.xs s=(zA,2):=fun h=>by rw [parseA,if_neg h]
 generalize parseA S.xs s=p at*
 generalize rollB S.xs=rb at*
 obtain ⟨sa,sn,sc,names⟩:=S
 simp only [SStr.v] at*
 refine Tr.intro 31 Tryz.func21 rfl rfl Tryz.call21 rfl ?_;intro C hC hro
 repeat (first | refine yy ?_ | refine yx fun _=> ?_ | refine qc (hroll _) ?_)
 refine run_cond (t:= !rb) rfl (fun h=> ?_) (fun h=> ?_)
 ·obtain rfl:=hpn (by intro h';rw [h'] at h;cases h)
  repeat (first | refine yy ?_ | refine yx fun _=> ?_)
  exact run_ret hC (rs:= [.cell 4 28,.tmp 5]) rfl (rl tok rfl (resT rfl resN)) (fun _ h=>h.drop) ⟨Mem.le_refl _,rfl,⟨0,0,0,0,noG,tz,false,noS⟩,zA_ok _,rfl,rfl⟩
 have hr:rb=true:=by cases rb <;> first | rfl | cases h
 have hpd:=hpd hr
 clear hpn h hr
 repeat (first | refine yy ?_ | refine yx fun _=> ?_ | (refine oc (hof _) ?_;rintro _ M1 L ⟨hM1,rfl,ax,rfl,hax,hact⟩))
 have hp:=hpd ax.aa hact (axPay hax)
 have hl1:=fun L=>hln M1 L hM1 ax hax
 generalize lineA names ax.aa=la at*
 obtain ⟨t,e⟩:=la
 simp only at hp hl1
 repeat (first | refine yy ?_ | refine yx fun _=> ?_ | refine qc (hl1 _) ?_)
 refine run_cond (t:=(e !=0)|| !(t.toList==s.toList)) rfl (fun h=> ?_) (fun h=> ?_)
 ·rw [bytes_beq] at h
  rw [if_neg (by rintro ⟨rfl,rfl⟩;simp at h)] at hp
  subst hp
  repeat (first | refine yy ?_ | refine yx fun _=> ?_)
  exact run_ret hC (rs:= [.cell 4 28,.tmp 5]) rfl (rl tok rfl (resT rfl resN)) (fun _ h=>h.drop.drop) ⟨hM1,rfl,⟨0,0,0,0,noG,tz,false,noS⟩,zA_ok _,rfl,rfl⟩
 ·rw [bytes_beq] at h
  rw [if_pos (by simpa using h)] at hp
  subst hp
  repeat (first | refine yy ?_ | refine yx fun _=> ?_)
  exact run_ret hC (rs:= [.cell 4 28,.tmp 5]) rfl (rl tok rfl (resT rfl resN)) (fun _ h=>h.drop.drop) ⟨hM1,rfl,ax,hax,rfl,rfl⟩
theorem cutB_sz: ∀(l cur:List UInt8),(cutB l cur).1.length≤l.length∧ ∀x∈(cutB l cur).1,x.length≤cur.length+l.length
 | [],cur=>⟨Nat.le_refl _,fun x hx=>by cases hx⟩
 | b::l,cur=>by
   rw [cutB]
   split
   ·obtain ⟨h1,h2⟩:=cutB_sz l []
    refine ⟨by simpa using h1,fun x hx=> ?_⟩
    rcases List.mem_cons.1 hx with rfl | hx
    ·omega
    ·have:=h2 x hx
     simp only [List.length_nil,List.length_cons] at this⊢;omega
   ·obtain ⟨h1,h2⟩:=cutB_sz l (cur++ [b])
    refine ⟨by simp only [List.length_cons];omega,fun x hx=> ?_⟩
    have:=h2 x hx
    simp only [List.length_append,List.length_cons,List.length_nil] at this⊢;omega
theorem rcut_ok (M:Mem) (L:HL) (s:ByteArray) (hs:s.size<900000):Tr Tryz.prog 62 [.string s] M L (fun v M' L'=>M.le M'∧L'=L∧ ∃S:SStr,v= .tuple ⟨[S.v,.string (bs (cutB s.data.toList []).2)]⟩∧StOk M' S∧S.xs=(cutB s.data.toList []).1.map bs):=by
 obtain ⟨T,hT⟩: ∃T,cutB s.data.toList []=T:=⟨_,rfl⟩
 rw [hT]
 have hsl:=ba_len s
 refine Tr.intro 30 Tryz.func62 rfl rfl Tryz.call62 rfl ?_;intro C hC hro
 repeat (first | refine yy ?_ | refine yx fun _=> ?_)
 refine run_loopN (fun i σ1 M1 L1=>i≤s.size∧M=M1∧ ∃(fr:Nat) (A:List (List UInt8)) (a:Option Addr) (c:Nat) (N:HL),A.length≤i∧fr≤i∧OS 9 1 (.slice a A.length c) A.length ((A.map bs).map stC).flatten N∧L1=N++L∧
  (A++(cutB (s.data.toList.drop i) ((s.data.toList.take i).drop fr)).1,(cutB (s.data.toList.drop i) ((s.data.toList.take i).drop fr)).2)=T∧
  σ1= [(6,iv i),(5,iv fr),(4,.slice a A.length c),(0,.string s)]) s.size [(6,iv 0),(5,iv 0),(4,.slice none 0 0),(0,.string s)] ?_ ⟨Nat.zero_le _,rfl,0,[],none,0,[],Nat.le_refl _,Nat.le_refl _,OS.nil _ _,rfl,hT,rfl⟩ (fun j _ _ _ h=>h.1) ?_
 ·exact ⟨rfl,rfl,rfl,rfl,trivial⟩
 rintro i _ _ _ ⟨hi,rfl,fr,A,a,c,N,hAi,hfi,hO,rfl,hst,rfl⟩ hnext
 repeat (first | refine yy ?_ | refine yx fun _=> ?_)
 refine run_cond (t:=decide ((i:Int)<(s.size:Int))) rfl (fun h=> ?_) (fun h=> ?_)
 rotate_left
 ·have hge:i=s.size:=by have:=of_decide_eq_false h;omega
  subst hge
  rw [List.drop_of_length_le (l:=s.data.toList) (i:=s.size) (by omega),cutB,List.append_nil,List.take_of_length_le (l:=s.data.toList) (by omega)] at hst
  clear hnext h
  repeat (first | refine yy ?_ | refine dd ?_ | refine yd ?_ | refine yx fun _=> ?_ | refine pq rfl (qt_strLo (n:=fr) tok rfl rfl rfl (fun _=>hfi)) ?_)
  refine run_retE hC (rs:= [.tmp 2,.tmp 3]) rfl (resT rfl (resT rfl resN)) fun w hw=> ?_
  obtain ⟨M2,a2,c2,q1,q2,q3,q4⟩:=hw.freezeOS hO (by rw [List.length_map,List.length_map]) (fun c hc=>by obtain ⟨x,_,rfl⟩:=List.mem_map.1 hc;rfl)
  refine ⟨M2,L,q2,q1,rfl,⟨a2,A.length,c2,A.map bs⟩, ?_,⟨q4,by show A.length<1000000;omega⟩,by rw [←hst]⟩
  rw [q3,←hst,←bs_cut,List.take_of_length_le (l:=s.data.toList) (by omega)];rfl
 have hlt:i<s.size:=by have:=of_decide_eq_true h;omega
 have hll:i<s.data.toList.length:=by omega
 obtain ⟨b,hbe⟩: ∃b,s[i]? =some b:=⟨_,getElem?_pos s i hlt⟩
 have hbl:s.data.toList[i]? =some b:=by rw [←ba_get];exact hbe
 have hdr:s.data.toList.drop i=b::s.data.toList.drop (i+1):=by
  rw [List.drop_eq_getElem_cons hll,(List.getElem?_eq_some_iff.1 hbl).2]
 have hb10:(((b.toNat:Nat):Int)==10)=decide (b=10):=by
  rw [Bool.eq_iff_iff,decide_eq_true_eq,beq_iff_eq]
  constructor
  ·intro e;exact UInt8.toNat_inj.1 (by show b.toNat=10;omega)
  ·rintro rfl;rfl
 rw [hdr,cutB] at hst
 repeat (first | refine yy ?_ | refine yx fun _=> ?_)
 refine run_cond (t:=decide (b=10)) (congrArg (fun z=>some (Value.bool z)) hb10) (fun h=> ?_) (fun h=> ?_)
 ·rw [if_pos (of_decide_eq_true h)] at hst
  repeat (first | refine yy ?_ | refine yx fun _=> ?_)
  rename_i b1
  (refine ro (st_app1 (n:=A.length) (news:= [.string (s.extract fr i)]) tok rfl rfl rfl rfl rfl rfl rfl rfl hO rfl (by intro u hu;simp at hu;subst hu;rfl) (by omega) (by omega)) ?_;rintro _ _ _ ⟨rfl,N',a',c',rfl,rfl,hO'⟩)
  have hfl:((A.map bs).map stC).flatten++ [.string (s.extract fr i)]=(((A++ [(s.data.toList.take i).drop fr]).map bs).map stC).flatten:=by
   rw [List.map_append,List.map_append,List.flatten_append,←bs_cut];rfl
  rw [hfl] at hO'
  have hAl:(A++ [(s.data.toList.take i).drop fr]).length=A.length+1:=by rw [List.length_append];rfl
  rw [←hAl] at hO'
  have hT2:((A++ [(s.data.toList.take i).drop fr])++(cutB (s.data.toList.drop (i+1)) ((s.data.toList.take (i+1)).drop (i+1))).1,(cutB (s.data.toList.drop (i+1)) ((s.data.toList.take (i+1)).drop (i+1))).2)=T:=by
   rw [←hst,List.drop_of_length_le (l:=s.data.toList.take (i+1)) (by rw [List.length_take];omega),List.append_assoc];rfl
  generalize A++ [(s.data.toList.take i).drop fr]=A' at*
  repeat (first | refine yy ?_ | refine yx fun _=> ?_)
  exact run_sub' (hnext _ _ _ ⟨hlt,rfl,i+1,A',a',c',N',by omega,Nat.le_refl _,hO',rfl,hT2,rfl⟩) ⟨lk_succ rfl (by omega),congrArg some (congrArg (Value.int .i64) (wrap64_succ (by omega))),by rw [hAl];rfl,rfl,trivial⟩
 ·rw [if_neg (of_decide_eq_false h)] at hst
  repeat (first | refine yy ?_ | refine yx fun _=> ?_)
  refine run_sub' (hnext _ _ _ ⟨hlt,rfl,fr,A,a,c,N,by omega,by omega,hO,rfl, ?_,rfl⟩) ⟨lk_succ rfl (by omega),rfl,rfl,rfl,trivial⟩
  rw [List.take_add_one,hbl,List.drop_append_of_le_length (by rw [List.length_take];omega)]
  exact hst
theorem readA_D {names:List ByteArray} {s:ByteArray} (hr:rollB names=true) (hz:s.size≤262144):readA names s=match rdD names 1 ((cutB s.data.toList []).1.map bs) (bs (cutB s.data.toList []).2)with
 | .inl m=>([],m,380)
 | .inr l=>(l,0,0):=by
 rw [readA,if_pos hr,if_pos hz,rdD_eq s.size 1 s (Nat.le_refl _)]
 cases lnO names s.size 1 s <;> rfl
theorem lnK_nil (o:Nat ⊕ List Aa):lnK [] o=o:=by cases o <;> rfl
theorem rread_ok (M:Mem) (L:HL) (hG:G38 M) (S:SStr) (hS:StOk M S) (hnz: ∀x∈S.xs,x.size<1000000) (s:ByteArray) (hs:s.size<900000):Tr Tryz.prog 27 [S.v,.string s] M L (raK (readA S.xs s) M L):=by
 have hroll:=fun L=>refRoll_ok M L S hS hnz
 have hcut:=fun L=>rcut_ok M L s hs
 refine Tr.intro 53 Tryz.func27 rfl rfl Tryz.call27 rfl ?_;intro C hC hro
 by_cases hr:rollB S.xs=true
 rotate_left
 ·rw [Bool.eq_false_iff.2 hr] at hroll
  repeat (first | refine yy ?_ | refine yx fun _=> ?_ | refine qc (hroll _) ?_)
  refine run_cond rfl (fun _=> ?_) (fun h=>by cases h)
  repeat (first | refine yy ?_ | refine yx fun _=> ?_)
  exact run_ret hC (rs:= [.tmp 4,.tmp 5,.tmp 6]) rfl (resT rfl (resT rfl (resT rfl resN))) (fun _ h=>h) ⟨Mem.le_refl _,rfl,⟨none,0,0,[]⟩,noA_ok _,by rw [readA,if_neg hr];rfl,Nat.le_refl _,by rw [readA,if_neg hr];rfl⟩
 rw [hr] at hroll
 repeat (first | refine yy ?_ | refine yx fun _=> ?_ | refine qc (hroll _) ?_)
 refine run_cond rfl (fun h=>by cases h) (fun _=> ?_)
 repeat (first | refine yy ?_ | refine yx fun _=> ?_)
 refine run_cond (t:=decide ((s.size:Int)>262144)) rfl (fun h=> ?_) (fun h=> ?_)
 ·have hz: ¬s.size≤262144:=by have:=of_decide_eq_true h;omega
  repeat (first | refine yy ?_ | refine yx fun _=> ?_)
  exact run_ret hC (rs:= [.tmp 4,.tmp 5,.tmp 6]) rfl (resT rfl (resT rfl (resT rfl resN))) (fun _ h=>h) ⟨Mem.le_refl _,rfl,⟨none,0,0,[]⟩,noA_ok _,by rw [readA,if_pos hr,if_neg hz];rfl,Nat.le_refl _,by rw [readA,if_pos hr,if_neg hz];rfl⟩
 have hz:s.size≤262144:=by have:=of_decide_eq_false h;omega
 have hRD:=readA_D hr hz
 obtain ⟨z1,z2⟩:=cutB_sz s.data.toList []
 have hsl:=ba_len s
 generalize cutB s.data.toList []=ct at*
 obtain ⟨ls,rs⟩:=ct
 simp only at hcut hRD z1 z2
 have z3: ∀x∈ls.map bs,x.size<900000:=fun x hx=>by
  obtain ⟨y,hy,rfl⟩:=List.mem_map.1 hx
  have:=z2 y hy
  have h3:(bs y).size=y.length:=rfl
  simp only [List.length_nil] at this;omega
 have z4:(ls.map bs).length≤s.size:=by rw [List.length_map];omega
 generalize ls.map bs=lines at*
 generalize bs rs=rest at*
 obtain ⟨R,hR⟩: ∃R,rdD S.xs 1 lines rest=R:=⟨_,rfl⟩
 rw [hR] at hRD
 have hi1: ∀m,R= .inl m→readA S.xs s=([],m,380):=fun m h=>by rw [hRD,h]
 have hi2: ∀l,R= .inr l→readA S.xs s=(l,0,0):=fun l h=>by rw [hRD,h]
 clear hRD
 repeat (first | refine yy ?_ | refine yx fun _=> ?_ | (refine oc (hcut _) ?_;rintro _ M0 L ⟨hM0,rfl,T,rfl,hT,hx⟩))
 have hl:=hT.len
 rw [hx] at hl
 obtain ⟨ta,tn,tc,zs⟩:=T
 simp only [SStr.v] at*
 subst hx
 have ht0:=hT.1
 refine run_loopN (fun j σ1 M1 L1=>j≤tn∧M0.le M1∧ ∃a c N ys,ys.length=j∧L1=N++L∧OS 28 10 (.slice a j c) j (ys.map axC).flatten N∧(∀x∈ys,AxOk M1 x)∧R=lnK (ys.map Ax.aa) (rdD S.xs (j+1) (zs.drop j) rest)∧σ1= [(10,iv j),(9,.slice a j c),(8,.string rest),(7,.slice ta tn tc),(0,.slice S.a S.len S.cap)]) tn [(10,iv 0),(9,.slice none 0 0),(8,.string rest),(7,.slice ta tn tc),(0,.slice S.a S.len S.cap)] ?_ ⟨Nat.zero_le _,Mem.le_refl _,none,0,[],[],rfl,rfl,.inl ⟨rfl,rfl,rfl,rfl⟩,(fun _ h=>by cases h),by rw [List.drop_zero,←hR];exact (lnK_nil _).symm,rfl⟩ (fun j _ _ _ h=>h.1) ?_
 ·exact ⟨rfl,rfl,rfl,rfl,rfl,trivial⟩
 rintro j _ M1 _ ⟨hj,hM1,a,c,N,ys,hys,rfl,hO,hok,hP,rfl⟩ hnext
 have hM01:=Mem.le_trans hM0 hM1
 have ht1:=ht0.le hM1
 repeat (first | refine yy ?_ | refine yx fun _=> ?_)
 refine run_cond (t:=decide ((j:Int)<(tn:Int))) rfl (fun h=> ?_) (fun h=> ?_)
 rotate_left
 ·have hge:j=tn:=by have:=of_decide_eq_false h;omega
  subst hge
  rw [List.drop_of_length_le (l:=zs) (by omega),rdD] at hP
  clear hnext h
  repeat (first | refine yy ?_ | refine yx fun _=> ?_)
  refine run_cond (t:= !(rest.toList==(⟨#[]⟩:ByteArray).toList)) rfl (fun h=> ?_) (fun h=> ?_)
  ·rw [bytes_beq] at h
   rw [if_neg (by simpa using h)] at hP
   have hrd:=hi1 _ hP
   repeat (first | refine yy ?_ | refine yx fun _=> ?_)
   exact run_ret hC (rs:= [.tmp 4,.tmp 5,.tmp 6]) rfl (resT rfl (resT (congrArg some (congrArg (Value.int .i64) (wrap64_succ (by omega)))) (resT rfl resN))) (fun _ h=>h.dropAll) ⟨hM01,rfl,⟨none,0,0,[]⟩,noA_ok _,by rw [hrd];rfl,Nat.le_refl _,by rw [hrd];rfl⟩
  ·rw [bytes_beq] at h
   rw [if_pos (by simpa using h),lnK,List.append_nil] at hP
   have hrd:=hi2 _ hP
   have hcl:=OS.capL hO
   repeat (first | refine yy ?_ | refine yx fun _=> ?_)
   refine run_frzL N fun M5 hM5 hb=> ?_
   exact run_ret hC (rs:= [.tmp 4,.tmp 5,.tmp 6]) rfl (resT rfl (resT rfl (resT rfl resN))) (fun _ h=>h) ⟨Mem.le_trans hM01 hM5,rfl,⟨a,j,c,ys⟩,⟨OS.toM hO (fun l hl=>by obtain ⟨x,_,rfl⟩:=List.mem_map.1 hl;rfl) (by simpa using hys) hb,by show j<_;omega,fun x hx=>(hok x hx).le hM5⟩,by rw [hrd],hcl,by rw [hrd];rfl⟩
 have hlt:j<tn:=by have:=of_decide_eq_true h;omega
 obtain ⟨b,off,m,rfl,hm,hc⟩:=SStr.at_ ht1 (j:=j) hlt
 have hdr:zs.drop j=m::zs.drop (j+1):=by
  obtain ⟨h1,h2⟩:=List.getElem?_eq_some_iff.1 hm
  rw [List.drop_eq_getElem_cons h1,h2]
 have hmz:=z3 m (List.mem_of_getElem? hm)
 have hpar:=fun L=>rtpar_ok M1 L (hG.le hM01) S (hS.le hM01) hnz m hmz
 rw [hdr,rdD] at hP
 generalize parseA S.xs m=pa at hP hpar
 repeat (first | refine yy ?_ | refine yx fun _=> ?_ | (refine oc (hpar _) ?_;rintro _ M2 _ ⟨hM2,rfl,ax,hax,haa,rfl⟩))
 rename_i ba
 refine run_cond (t:=pa.2 !=0) rfl (fun h2=> ?_) (fun h2=> ?_)
 ·rw [if_neg (by simpa using h2)] at hP
  have hrd:=hi1 _ hP
  repeat (first | refine yy ?_ | refine yx fun _=> ?_)
  exact run_ret hC (rs:= [.tmp 4,.tmp 5,.tmp 6]) rfl (resT rfl (resT (congrArg some (congrArg (Value.int .i64) (wrap64_succ (by omega)))) (resT rfl resN))) (fun _ h=>h.drop.dropAll) ⟨Mem.le_trans hM01 hM2,rfl,⟨none,0,0,[]⟩,noA_ok _,by rw [hrd];rfl,Nat.le_refl _,by rw [hrd];rfl⟩
 rw [if_pos (by simpa using h2)] at hP
 repeat (first | refine yy ?_ | refine yx fun _=> ?_)
 (refine ro (st_app1x (n:=j) (news:=axC ax) tok rfl rfl rfl rfl rfl rfl rfl rfl hO rfl (axC_one _) (by omega) (by omega)) ?_;rintro _ _ _ ⟨rfl,N',a',c',rfl,rfl,hO'⟩)
 repeat (first | refine yy ?_ | refine yx fun _=> ?_)
 refine run_mem (fun _ h=>h.drop) (run_sub' (hnext _ _ _ ⟨hlt,Mem.le_trans hM1 hM2,a',c',N',ys++ [ax],by rw [List.length_append,hys];rfl,rfl,by rw [List.map_append,List.flatten_append];simpa using hO', ?_,by rw [hP,List.map_append,List.map_singleton,haa];exact lnK_cons _ _ _,rfl⟩) ⟨lk_succ rfl (by omega),rfl,rfl,rfl,rfl,trivial⟩)
 intro q hq
 rcases List.mem_append.1 hq with hq | hq
 ·exact (hok q hq).le hM2
 ·obtain rfl:=List.mem_singleton.1 hq
  exact hax
theorem bStr0_ok (M:Mem) (L:HL) (b:Nat) (p:Value):Tr Tryz.prog 36 [pt b] M ((b,bdO p (.slice none 0 0))::L) (fun w M' L'=>M=M'∧w= .string ⟨#[]⟩∧L'=(b,bdO p (.slice none 0 0))::L):=by
 refine Tr.intro 14 Tryz.func36 rfl rfl Tryz.call36 rfl ?_;intro C hC hro
 repeat (first | refine zz ?_ | refine zx fun _=> ?_ | refine dd ?_ | refine dz ?_ | refine dx fun _=> ?_ | refine pq rfl (qt_sliceData0 rfl) ?_ | refine pq rfl (qt_unsafeString0 rfl rfl) ?_)
 exact run_ret hC (rs:= [.tmp 2]) rfl (resT rfl resN) (fun _ h=>h) ⟨rfl,rfl,rfl⟩
theorem lnsT_step {names:List ByteArray} {l:List Aa} {j:Nat} {x:Aa} (h:l[j]? =some x) (acc:ByteArray):(lnsT names (l.drop j)).map (fun t=>acc++t)=if (lineA names x).2=0 then (lnsT names (l.drop (j+1))).map (fun t=>(acc++((lineA names x).1++nlB))++t)else none:=by
 obtain ⟨h1,h2⟩:=List.getElem?_eq_some_iff.1 h
 rw [List.drop_eq_getElem_cons h1,h2,lnsT]
 split
 ·rw [Option.map_map]
  congr 1
  funext t
  exact (app_assoc _ _ _).symm
 ·rfl
theorem lineA_or (names:List ByteArray) (a:Aa):(lineA names a).2=0∨(lineA names a).2=2:=by
 by_cases h:rollB names=true∧AcP a∧MayL names.length a
 ·rw [(line_doc names a).1 h];exact .inl rfl
 ·rw [(line_doc names a).2 h];exact .inr rfl
theorem linesA_of {names:List ByteArray} {l:List Aa} (hr:rollB names=true) {R:Option ByteArray} (h:R=lnsT names l):(R=none→linesA names l=(⟨#[]⟩,2))∧(∀t,R=some t→t.size≤262144→linesA names l=(t,0))∧(∀t,R=some t→ ¬t.size≤262144→linesA names l=(⟨#[]⟩,5)):=by
 refine ⟨fun e=> ?_,fun t e hz=> ?_,fun t e hz=> ?_⟩
 ·rw [linesA,if_pos hr,←h,e]
 ·rw [linesA,if_pos hr,←h,e];exact if_pos hz
 ·rw [linesA,if_pos hr,←h,e];exact if_neg hz
theorem rlines_ok (M:Mem) (L:HL) (hG:G38 M) (S:SStr) (hS:StOk M S) (hnz: ∀x∈S.xs,x.size<1000000) (A:SAx) (hA:SaOk M A) (hsz: ∀x∈A.xs,(lineA S.xs x.aa).1.size<1000000):TrQ Tryz.prog 24 [S.v,A.v] M L (.tuple ⟨[.string (linesA S.xs (A.xs.map Ax.aa)).1,.int .i64 (linesA S.xs (A.xs.map Ax.aa)).2]⟩):=by
 have hroll:=fun L=>refRoll_ok M L S hS hnz
 have hlo:=lineA_or S.xs
 refine Tr.intro 39 Tryz.func24 rfl rfl Tryz.call24 rfl ?_;intro C hC hro
 by_cases hr:rollB S.xs=true
 rotate_left
 ·rw [Bool.eq_false_iff.2 hr] at hroll
  rw [linesA,if_neg hr] at hC
  repeat (first | refine yy ?_ | refine yx fun _=> ?_ | refine qc (hroll _) ?_)
  refine run_cond rfl (fun _=> ?_) (fun h=>by cases h)
  repeat (first | refine yy ?_ | refine yx fun _=> ?_)
  exact run_ret hC (rs:= [.tmp 4,.tmp 5]) rfl (resT rfl (resT rfl resN)) (fun _ h=>h) ⟨rfl,rfl,rfl⟩
 rw [hr] at hroll
 obtain ⟨R,hR⟩: ∃R,R=lnsT S.xs (A.xs.map Ax.aa):=⟨_,rfl⟩
 obtain ⟨l1,l2,l3⟩:=linesA_of hr hR
 repeat (first | refine yy ?_ | refine yx fun _=> ?_ | refine qc (hroll _) ?_)
 refine run_cond rfl (fun h=>by cases h) (fun _=> ?_)
 have hl:=hA.len
 have hlt6:=hA.lt
 obtain ⟨aa,an,ac,axs⟩:=A
 simp only [SAx.v] at*
 repeat (first | refine yy ?_ | refine yx fun _=> ?_)
 refine run_loopN (fun j σ1 M1 L1=>j≤an∧M=M1∧L=L1∧ ∃acc:ByteArray,acc.size≤j*1000000∧R=(lnsT S.xs ((axs.map Ax.aa).drop j)).map (fun t=>acc++t)∧σ1= [(7,iv j),(6,.string acc),(0,.slice S.a S.len S.cap),(1,.slice aa an ac)]) an [(7,iv 0),(6,.string ⟨#[]⟩),(0,.slice S.a S.len S.cap),(1,.slice aa an ac)] ?_ ⟨Nat.zero_le _,rfl,rfl,⟨#[]⟩,Nat.zero_le _, ?_,rfl⟩ (fun j _ _ _ h=>h.1) ?_
 ·exact ⟨rfl,rfl,rfl,rfl,trivial⟩
 ·rw [List.drop_zero,hR]
  cases lnsT S.xs (axs.map Ax.aa)with
  | none=>rfl
  | some t=>exact congrArg some (nil_app t).symm
 rintro j _ _ _ ⟨hj,rfl,rfl,acc,hz,hP,rfl⟩ hnext
 repeat (first | refine yy ?_ | refine yx fun _=> ?_)
 refine run_cond (t:=decide ((j:Int)<(an:Int))) rfl (fun h=> ?_) (fun h=> ?_)
 rotate_left
 ·have hge:j=an:=by have:=of_decide_eq_false h;omega
  subst hge
  rw [List.drop_of_length_le (by rw [List.length_map];omega),lnsT,Option.map_some,app_nil] at hP
  clear hnext h
  repeat (first | refine yy ?_ | refine yx fun _=> ?_)
  refine run_cond (t:=decide ((acc.size:Int)>262144)) rfl (fun h=> ?_) (fun h=> ?_)
  ·have hz: ¬acc.size≤262144:=by have:=of_decide_eq_true h;omega
   repeat (first | refine yy ?_ | refine yx fun _=> ?_)
   exact run_ret hC (rs:= [.tmp 4,.tmp 5]) rfl (resT rfl (resT rfl resN)) (fun _ h=>h) ⟨by rw [l3 _ hP hz];rfl,rfl,rfl⟩
  ·have hz:acc.size≤262144:=by have:=of_decide_eq_false h;omega
   repeat (first | refine yy ?_ | refine yx fun _=> ?_)
   exact run_ret hC (rs:= [.tmp 4,.tmp 5]) rfl (resT rfl (resT rfl resN)) (fun _ h=>h) ⟨by rw [l2 _ hP hz];rfl,rfl,rfl⟩
 have hlt:j<an:=by have:=of_decide_eq_true h;omega
 obtain ⟨b,off,x,rfl,hx,hc⟩:=SAx.at_ hA.sl hlt
 have hax:=hA.each x (List.mem_of_getElem? hx)
 have hxz:=hsz x (List.mem_of_getElem? hx)
 have hxa:(axs.map Ax.aa)[j]? =some x.aa:=by rw [List.getElem?_map,hx];rfl
 have hln:=fun L=>rline_ok M L hG S hS hnz x hax
 have h2:=hlo x.aa
 rw [lnsT_step hxa] at hP
 generalize lineA S.xs x.aa=la at*
 obtain ⟨t,e⟩:=la
 simp only at hP hln h2 hxz
 repeat (first | refine yy ?_ | refine yx fun _=> ?_ | refine qc (hln _) ?_)
 refine run_cond (t:=e !=0) rfl (fun h=> ?_) (fun h=> ?_)
 ·have he: ¬e=0:=by simpa using h
  rw [if_neg he] at hP
  obtain rfl:=h2.resolve_left he
  repeat (first | refine yy ?_ | refine yx fun _=> ?_)
  exact run_ret hC (rs:= [.tmp 4,.tmp 5]) rfl (resT rfl (resT rfl resN)) (fun _ h=>h) ⟨by rw [l1 hP];rfl,rfl,rfl⟩
 ·rw [if_pos (by simpa using h)] at hP
  have hnl:(⟨#[10]⟩:ByteArray).size=1:=rfl
  have hat:(acc++t).size=acc.size+t.size:=app_size _ _
  have han:((acc++t)++nlB).size=acc.size+t.size+1:=by rw [app_size,hat];rfl
  repeat (first | refine yy ?_ | refine yx fun _=> ?_)
  exact run_sub' (hnext _ _ _ ⟨hlt,rfl,rfl,(acc++t)++nlB,by omega,by rw [hP,app_assoc],rfl⟩) ⟨lk_succ rfl (by omega),rfl,rfl,rfl,trivial⟩
theorem tlines_ok (M:Mem) (L:HL) (hG:G38 M) (S:SStr) (hS:StOk M S) (hcap:S.len≤S.cap) (hnz: ∀x∈S.xs,x.size<1000000) (A:SAx) (hA:SaOk M A) (hsz: ∀x∈A.xs,(lineA S.xs x.aa).1.size<1000000):TrQ Tryz.prog 22 [S.v,A.v] M L (.tuple ⟨[.string (linesA S.xs (A.xs.map Ax.aa)).1,.int .i64 (linesA S.xs (A.xs.map Ax.aa)).2]⟩):=by
 have hroll:=fun L=>roll_ok M L S hS hcap hnz
 have hlo:=lineA_or S.xs
 refine Tr.intro 39 Tryz.func22 rfl rfl Tryz.call22 rfl ?_;intro C hC hro
 by_cases hr:rollB S.xs=true
 rotate_left
 ·rw [if_neg hr] at hroll
  rw [linesA,if_neg hr] at hC
  repeat (first | refine yy ?_ | refine yx fun _=> ?_ | refine qc (hroll _) ?_)
  refine run_cond rfl (fun _=> ?_) (fun h=>by cases h)
  repeat (first | refine yy ?_ | refine yx fun _=> ?_)
  exact run_ret hC (rs:= [.tmp 4,.tmp 5]) rfl (resT rfl (resT rfl resN)) (fun _ h=>h) ⟨rfl,rfl,rfl⟩
 rw [if_pos hr] at hroll
 obtain ⟨R,hR⟩: ∃R,R=lnsT S.xs (A.xs.map Ax.aa):=⟨_,rfl⟩
 obtain ⟨l1,l2,l3⟩:=linesA_of hr hR
 repeat (first | refine yy ?_ | refine yx fun _=> ?_ | refine qc (hroll _) ?_)
 refine run_cond rfl (fun h=>by cases h) (fun _=> ?_)
 have hl:=hA.len
 have hlt6:=hA.lt
 obtain ⟨aa,an,ac,axs⟩:=A
 simp only [SAx.v] at*
 repeat (first | refine yy ?_ | refine yx fun _=> ?_)
 rename_i b7
 refine run_loopN (fun j σ1 M1 L1=>j≤an∧M=M1∧ ∃p v N acc,(p= .pointer none∨p=pt b7)∧BdS v (ByteArray.data acc).toList N∧(j=0→v= .slice none 0 0∧N= []∧acc=⟨#[]⟩)∧(0<j→1≤acc.size)∧acc.size≤j*1000000∧L1=N++(b7,bdO p v)::L∧R=(lnsT S.xs ((axs.map Ax.aa).drop j)).map (fun t=>acc++t)∧σ1= [(19,iv j),(18,iv an),(17,.slice aa an ac),(7,pt b7),(0,.slice S.a S.len S.cap)]) an [(19,iv 0),(18,iv an),(17,.slice aa an ac),(7,pt b7),(0,.slice S.a S.len S.cap)] ?_ ⟨Nat.zero_le _,rfl,.pointer none,.slice none 0 0,[],⟨#[]⟩,.inl rfl,OS.nil _ _,(fun _=>⟨rfl,rfl,rfl⟩),(fun h=>by omega),Nat.zero_le _,rfl, ?_,rfl⟩ (fun j _ _ _ h=>h.1) ?_
 ·exact ⟨rfl,rfl,rfl,rfl,rfl,trivial⟩
 ·rw [List.drop_zero,hR]
  cases lnsT S.xs (axs.map Ax.aa)with
  | none=>rfl
  | some t=>exact congrArg some (nil_app t).symm
 rintro j _ _ _ ⟨hj,rfl,p,v,N,acc,hp,hO,hj0,hj1,hz,rfl,hP,rfl⟩ hnext
 have hal:=ba_len acc
 repeat (first | refine yy ?_ | refine yx fun _=> ?_)
 refine run_cond (t:=decide ((j:Int)<(an:Int))) rfl (fun h=> ?_) (fun h=> ?_)
 rotate_left
 ·have hge:j=an:=by have:=of_decide_eq_false h;omega
  subst hge
  rw [List.drop_of_length_le (by rw [List.length_map];omega),lnsT,Option.map_some,app_nil] at hP
  clear hnext h
  obtain ⟨va,vc,hv⟩:=osH hO
  have hbl:=fun L (h:(b7,bdO p (.slice va acc.data.toList.length vc))∈L)=>bLen_ok M L b7 p va acc.data.toList.length vc h
  rw [←hv,hal] at hbl
  repeat (first | refine zc ?_ | refine vq ?_)
  refine qc (hbl _ (List.mem_append_right _ List.mem_cons_self)) ?_
  repeat (first | refine yy ?_ | refine yx fun _=> ?_)
  refine run_cond (t:=decide ((acc.size:Int)>262144)) rfl (fun h=> ?_) (fun h=> ?_)
  ·have hz: ¬acc.size≤262144:=by have:=of_decide_eq_true h;omega
   repeat (first | refine yy ?_ | refine yx fun _=> ?_)
   exact run_ret hC (rs:= [.tmp 4,.tmp 5]) rfl (resT rfl (resT rfl resN)) (fun _ h=>h.dropAll.drop) ⟨by rw [l3 _ hP hz];rfl,rfl,rfl⟩
  ·have hz:acc.size≤262144:=by have:=of_decide_eq_false h;omega
   rcases Nat.eq_zero_or_pos j with h0 | h0
   ·obtain ⟨rfl,rfl,rfl⟩:=hj0 h0
    repeat (first | refine yy ?_ | refine yx fun _=> ?_ | (refine oc (bStr0_ok _ _ b7 p) ?_;rintro _ _ _ ⟨rfl,rfl,rfl⟩))
    exact run_ret hC (rs:= [.tmp 4,.tmp 5]) rfl (resT rfl (resT rfl resN)) (fun _ h=>h.drop) ⟨by rw [l2 _ hP hz];rfl,rfl,rfl⟩
   ·have hpos:=hj1 h0
    repeat (first | refine yy ?_ | refine yx fun _=> ?_ | (refine oc (bStr_ok _ _ L N b7 p v acc (List.perm_middle (l₁:=N)) (hO.f (fun h=>by rw [h] at hal;simp at hal;omega)) hpos (by omega)) ?_;rintro _ _ _ ⟨rfl,rfl,N3,rfl,hO3⟩))
    exact run_ret hC (rs:= [.tmp 4,.tmp 5]) rfl (resT rfl (resT rfl resN)) (fun _ h=>h.drop.dropAll) ⟨by rw [l2 _ hP hz];rfl,rfl,rfl⟩
 have hlt:j<an:=by have:=of_decide_eq_true h;omega
 obtain ⟨b,off,x,rfl,hx,hc⟩:=SAx.at_ hA.sl hlt
 have hax:=hA.each x (List.mem_of_getElem? hx)
 have hxz:=hsz x (List.mem_of_getElem? hx)
 have hxa:(axs.map Ax.aa)[j]? =some x.aa:=by rw [List.getElem?_map,hx];rfl
 have hln:=fun L=>tline_ok M L hG S hS hcap hnz x hax
 have h2:=hlo x.aa
 rw [lnsT_step hxa] at hP
 generalize lineA S.xs x.aa=la at*
 obtain ⟨t,e⟩:=la
 simp only at hP hln h2 hxz
 repeat (first | refine yy ?_ | refine yx fun _=> ?_ | refine qc (hln _) ?_)
 rename_i b9
 refine run_cond (t:=e !=0) rfl (fun h=> ?_) (fun h=> ?_)
 ·have he: ¬e=0:=by simpa using h
  rw [if_neg he] at hP
  obtain rfl:=h2.resolve_left he
  repeat (first | refine yy ?_ | refine yx fun _=> ?_)
  exact run_ret hC (rs:= [.tmp 4,.tmp 5]) rfl (resT rfl (resT rfl resN)) (fun _ h=>h.drop.dropAll.drop) ⟨by rw [l1 hP];rfl,rfl,rfl⟩
 ·rw [if_pos (by simpa using h)] at hP
  have hnl:(⟨#[10]⟩:ByteArray).size=1:=rfl
  have htz:(t++nlB).size=t.size+1:=by rw [app_size];rfl
  have hat:(acc++(t++nlB)).size=acc.size+(t.size+1):=by rw [app_size,htz]
  have hj6:j*1000000<1000000*1000000:=by omega
  repeat (first | refine yy ?_ | refine yx fun _=> ?_ | (refine oc (bWrite_ok _ _ ((b9,.cells ⟨axC x⟩ 28 (0,0))::L) N b7 p v acc.data.toList (t++nlB) ((List.perm_middle (l₁:=N)).cons _ |>.trans ((List.Perm.swap _ _ _).trans ((List.perm_middle (l₁:=N)).symm.cons _))) hp hO (by omega)) ?_;rintro _ _ _ ⟨rfl,v',N',rfl,hO'⟩))
  rw [←app_list] at hO'
  refine run_mem (fun _ h=>(h.perm ((List.Perm.append_left N' (List.Perm.swap _ _ _)).trans List.perm_middle)).drop) (run_sub' (hnext _ _ _ ⟨hlt,rfl,pt b7,v',N',acc++(t++nlB),.inr rfl,hO',(fun h=>by omega),(fun _=>by omega),by omega,rfl,hP,rfl⟩) ⟨lk_succ rfl (by omega),rfl,rfl,rfl,rfl,trivial⟩)
theorem rFlatOne {α:Type} {f:α→List Value} (h: ∀r,∀u∈f r,u.oneCell'=true) (l:List α): ∀u∈(l.map f).flatten,u.oneCell'=true:=by
 intro u hu
 obtain ⟨x,hx,hu⟩:=List.mem_flatten.1 hu
 obtain ⟨y,_,rfl⟩:=List.mem_map.1 hx
 exact h y u hu
structure AxIn (M:Mem) (x:Ax):Prop where
 gives:x.gives.Ok M
 steps:SlM M 7 x.steps.a x.steps.len (x.steps.xs.map srC)
 each: ∀y∈x.steps.xs,SlM M 1 y.list.a y.list.len (y.list.xs.map inC)
structure SaIn (M:Mem) (s:SAx):Prop where
 sl:SlM M 10 s.a s.len (s.xs.map axC)
 each: ∀x∈s.xs,AxIn M x
structure LimA (x:Ax):Prop where
 g:x.gives.len≤20
 s:x.steps.len≤100
 pay: ∀m∈x.gives.xs,m.digest.size≤8192
 step: ∀y∈x.steps.xs,y.text.size≤4096∧y.list.len≤100
def LimL (s:SAx):Prop:=s.len≤60∧ ∀x∈s.xs,LimA x
theorem SaIn.ok {M:Mem} {s:SAx} (h:SaIn M s) (hl:LimL s):SaOk M s:=by
 refine ⟨h.sl,by have:=hl.1;omega,fun x hx=> ?_⟩
 have h1:=h.each x hx
 have h2:=hl.2 x hx
 refine ⟨⟨h1.gives,by have:=h2.g;omega⟩,⟨h1.steps,by have:=h2.s;omega,fun y hy=>⟨⟨h1.each y hy,by have:=(h2.step y hy).2;omega⟩,by have:=(h2.step y hy).1;omega⟩⟩,fun m hm=>by have:=h2.pay m hm;omega⟩
theorem SaIn.le {M M':Mem} {s:SAx} (hm:M.le M') (h:SaIn M s):SaIn M' s:=⟨h.sl.le hm,fun x hx=>⟨(h.each x hx).gives.le hm,(h.each x hx).steps.le hm,fun y hy=>((h.each x hx).each y hy).le hm⟩⟩
theorem all_cons_snoc {α:Type} {xs:List α} {j:Nat} {x:α} {P:α→Prop} (hx:xs[j]? =some x) (h: ∀y∈xs.take j,P y) (hp:P x): ∀y∈xs.take (j+1),P y:=by
 intro y hy
 rw [take_snoc hx] at hy
 rcases List.mem_append.1 hy with hy | hy
 ·exact h y hy
 ·rw [List.mem_singleton.1 hy];exact hp
set_option maxRecDepth 10000 in
theorem slong_ok (M:Mem) (L:HL) (s:SAx) (hs:SaIn M s):Tr Tryz.prog 9 [s.v] M L (fun v M' L'=>M=M'∧L=L'∧ ∃b:Bool,v= .bool b∧(b=false→LimL s)):=by
 have hlen:s.xs.length=s.len:=by have:=hs.sl.1;simpa using this
 obtain ⟨la,ln,lc,xs⟩:=s
 simp only [SAx.v] at*
 refine Tr.intro 113 Tryz.func9 rfl rfl Tryz.call9 rfl ?_;intro C hC hro
 repeat (first | refine zz ?_ | refine zx fun _=> ?_)
 refine run_cond rfl (fun h=> ?_) (fun h=> ?_)
 ·repeat (first | refine zz ?_ | refine zx fun _=> ?_)
  exact run_ret hC (rs:= [.tmp 2]) rfl (resT rfl resN) (fun _ h=>h) ⟨rfl,rfl,true,rfl,fun e=>by cases e⟩
 have h60:ln≤60:=by have:=of_decide_eq_false h;omega
 clear h
 repeat (first | refine zz ?_ | refine zx fun _=> ?_)
 refine run_loopN (fun j σ1 M1 L1=>j≤ln∧M=M1∧L=L1∧(∀x∈xs.take j,LimA x)∧ ∃n:Int,σ1= [(4,.int .i64 (j:Int)),(3,.int .i64 n),(0,.slice la ln lc)]) ln [(4,.int .i64 ((0:Nat):Int)),(3,.int .i64 0),(0,.slice la ln lc)] ?_ ⟨Nat.zero_le _,rfl,rfl,by simp,0,rfl⟩ (fun j _ _ _ h=>h.1) ?_
 ·exact ⟨rfl,rfl,rfl,trivial⟩
 rintro j _ _ _ ⟨hj,rfl,rfl,hpre,n,rfl⟩ hnext
 repeat (first | refine zz ?_ | refine zx fun _=> ?_)
 refine run_cond rfl (fun h=> ?_) (fun h=> ?_)
 rotate_left
 ·have hge:j=ln:=by simp at h;omega
  subst hge
  rw [List.take_of_length_le (by omega)] at hpre
  repeat (first | refine zz ?_ | refine zx fun _=> ?_)
  exact run_ret hC (rs:= [.tmp 2]) rfl (resT rfl resN) (fun _ h=>h) ⟨rfl,rfl,_,rfl,fun _=>⟨h60,hpre⟩⟩
 have hlt:j<ln:=by simpa using h
 obtain ⟨b,off,x,rfl,hx,hc⟩:=SAx.at_ hs.sl hlt
 have hxi:=hs.each x (List.mem_of_getElem? hx)
 have gl:x.gives.xs.length=x.gives.len:=by have:=hxi.gives.1;simpa using this
 have sl:x.steps.xs.length=x.steps.len:=by have:=hxi.steps.1;simpa using this
 repeat (first | refine zz ?_ | refine zx fun _=> ?_ | refine runL_q (qt_indexN tok rfl rfl rfl rfl (fun _=>by omega)) rfl rfl rfl ?_ | refine runL_g rfl rfl (qt_indexN tok rfl rfl rfl rfl (fun _=>by omega)) rfl rfl rfl rfl rfl ?_ | refine runL_q (qt_ldM tok rfl hc rfl) rfl rfl rfl ?_ | refine runL_g rfl rfl (qt_ldM tok rfl hc rfl) rfl rfl rfl rfl rfl ?_ | refine runL_q (qt_ldM0 tok rfl hc rfl) rfl rfl rfl ?_ | refine runL_g rfl rfl (qt_ldM0 tok rfl hc rfl) rfl rfl rfl rfl rfl ?_)
 refine run_cond rfl (fun h=> ?_) (fun h=> ?_)
 ·repeat (first | refine zz ?_ | refine zx fun _=> ?_)
  exact run_ret hC (rs:= [.tmp 2]) rfl (resT rfl resN) (fun _ h=>h) ⟨rfl,rfl,true,rfl,fun e=>by cases e⟩
 have h20:x.gives.len≤20∧x.steps.len≤100:=by
  have h':(decide ((x.gives.len:Int)>20)||decide ((x.steps.len:Int)>100))=false:=h
  simp only [Bool.or_eq_false_iff,decide_eq_false_iff_not] at h'
  omega
 clear h
 repeat (first | refine zz ?_ | refine zx fun _=> ?_)
 refine run_loopN (fun k σ1 M1 L1=>k≤x.gives.len∧M=M1∧L=L1∧(∀m∈x.gives.xs.take k,m.digest.size≤8192)∧ ∃n:Int,σ1= [(5,.int .i64 (k:Int)),(4,.int .i64 (j:Int)),(3,.int .i64 n),(0,.slice (some ⟨b,off,none⟩) ln lc)]) x.gives.len [(5,.int .i64 ((0:Nat):Int)),(4,.int .i64 (j:Int)),(3,.int .i64 n),(0,.slice (some ⟨b,off,none⟩) ln lc)] ?_ ⟨Nat.zero_le _,rfl,rfl,by simp,n,rfl⟩ (fun k _ _ _ h=>h.1) ?_
 ·exact ⟨rfl,rfl,rfl,rfl,trivial⟩
 rintro k _ _ _ ⟨hk,rfl,rfl,hpreg,n1,rfl⟩ hnx
 repeat (first | refine zz ?_ | refine zx fun _=> ?_ | refine runL_q (qt_indexN tok rfl rfl rfl rfl (fun _=>by omega)) rfl rfl rfl ?_ | refine runL_g rfl rfl (qt_indexN tok rfl rfl rfl rfl (fun _=>by omega)) rfl rfl rfl rfl rfl ?_ | refine runL_q (qt_ldM tok rfl hc rfl) rfl rfl rfl ?_ | refine runL_g rfl rfl (qt_ldM tok rfl hc rfl) rfl rfl rfl rfl rfl ?_ | refine runL_q (qt_ldM0 tok rfl hc rfl) rfl rfl rfl ?_ | refine runL_g rfl rfl (qt_ldM0 tok rfl hc rfl) rfl rfl rfl rfl rfl ?_)
 refine run_cond rfl (fun h=> ?_) (fun h=> ?_)
 ·have hkt:k<x.gives.len:=by simpa using h
  obtain ⟨b2,off2,m,hma,hm,hc2⟩:=SMb.at_ hxi.gives hkt
  have hv:x.gives.v= .slice (some ⟨b2,off2,none⟩) x.gives.len x.gives.cap:=by rw [←hma];rfl
  repeat (first | refine zz ?_ | refine zx fun _=> ?_ | refine runL_q (qt_indexN tok rfl rfl rfl rfl (fun _=>by omega)) rfl rfl rfl ?_ | refine runL_g rfl rfl (qt_indexN tok rfl rfl rfl rfl (fun _=>by omega)) rfl rfl rfl rfl rfl ?_ | refine runL_q (qt_ldM tok rfl hc rfl) rfl rfl rfl ?_ | refine runL_g rfl rfl (qt_ldM tok rfl hc rfl) rfl rfl rfl rfl rfl ?_ | refine runL_q (qt_ldM0 tok rfl hc rfl) rfl rfl rfl ?_ | refine runL_g rfl rfl (qt_ldM0 tok rfl hc rfl) rfl rfl rfl rfl rfl ?_)
  refine runL_as 46 (.slice (some ⟨b2,off2,none⟩) x.gives.len x.gives.cap) rfl hv ?_
  repeat (first | refine zz ?_ | refine zx fun _=> ?_ | refine runL_q (qt_indexN tok rfl rfl rfl rfl (fun _=>by omega)) rfl rfl rfl ?_ | refine runL_g rfl rfl (qt_indexN tok rfl rfl rfl rfl (fun _=>by omega)) rfl rfl rfl rfl rfl ?_ | refine runL_q (qt_ldM tok rfl hc2 rfl) rfl rfl rfl ?_ | refine runL_g rfl rfl (qt_ldM tok rfl hc2 rfl) rfl rfl rfl rfl rfl ?_ | refine runL_q (qt_ldM0 tok rfl hc2 rfl) rfl rfl rfl ?_ | refine runL_g rfl rfl (qt_ldM0 tok rfl hc2 rfl) rfl rfl rfl rfl rfl ?_)
  refine run_cond rfl (fun h=> ?_) (fun h=> ?_)
  ·repeat (first | refine zz ?_ | refine zx fun _=> ?_)
   exact run_ret hC (rs:= [.tmp 2]) rfl (resT rfl resN) (fun _ h=>h) ⟨rfl,rfl,true,rfl,fun e=>by cases e⟩
  have h8:m.digest.size≤8192:=by have:=of_decide_eq_false h;omega
  repeat (first | refine zz ?_ | refine zx fun _=> ?_ | refine runL_q (qt_indexN tok rfl rfl rfl rfl (fun _=>by omega)) rfl rfl rfl ?_ | refine runL_g rfl rfl (qt_indexN tok rfl rfl rfl rfl (fun _=>by omega)) rfl rfl rfl rfl rfl ?_ | refine runL_q (qt_ldM tok rfl hc rfl) rfl rfl rfl ?_ | refine runL_g rfl rfl (qt_ldM tok rfl hc rfl) rfl rfl rfl rfl rfl ?_ | refine runL_q (qt_ldM0 tok rfl hc rfl) rfl rfl rfl ?_ | refine runL_g rfl rfl (qt_ldM0 tok rfl hc rfl) rfl rfl rfl rfl rfl ?_)
  refine runL_as 58 (.slice (some ⟨b2,off2,none⟩) x.gives.len x.gives.cap) rfl hv ?_
  repeat (first | refine zz ?_ | refine zx fun _=> ?_ | refine runL_q (qt_indexN tok rfl rfl rfl rfl (fun _=>by omega)) rfl rfl rfl ?_ | refine runL_g rfl rfl (qt_indexN tok rfl rfl rfl rfl (fun _=>by omega)) rfl rfl rfl rfl rfl ?_ | refine runL_q (qt_ldM tok rfl hc2 rfl) rfl rfl rfl ?_ | refine runL_g rfl rfl (qt_ldM tok rfl hc2 rfl) rfl rfl rfl rfl rfl ?_ | refine runL_q (qt_ldM0 tok rfl hc2 rfl) rfl rfl rfl ?_ | refine runL_g rfl rfl (qt_ldM0 tok rfl hc2 rfl) rfl rfl rfl rfl rfl ?_)
  exact run_sub' (hnx _ _ _ ⟨hkt,rfl,rfl,all_cons_snoc hm hpreg h8,_,rfl⟩) ⟨lk_succ rfl (by omega),rfl,rfl,rfl,trivial⟩
 have hgeg:k=x.gives.len:=by simp at h;omega
 rw [hgeg,List.take_of_length_le (by omega)] at hpreg
 clear hnx h
 repeat (first | refine zz ?_ | refine zx fun _=> ?_)
 refine run_loopN (fun k σ1 M1 L1=>k≤x.steps.len∧M=M1∧L=L1∧(∀y∈x.steps.xs.take k,y.text.size≤4096∧y.list.len≤100)∧ ∃n:Int,σ1= [(6,.int .i64 (k:Int)),(4,.int .i64 (j:Int)),(3,.int .i64 n),(0,.slice (some ⟨b,off,none⟩) ln lc)]) x.steps.len [(6,.int .i64 ((0:Nat):Int)),(4,.int .i64 (j:Int)),(3,.int .i64 n1),(0,.slice (some ⟨b,off,none⟩) ln lc)] ?_ ⟨Nat.zero_le _,rfl,rfl,by simp,n1,rfl⟩ (fun k _ _ _ h=>h.1) ?_
 ·exact ⟨rfl,rfl,rfl,rfl,trivial⟩
 rintro i _ _ _ ⟨hi,rfl,rfl,hpres,n2,rfl⟩ hnx
 repeat (first | refine zz ?_ | refine zx fun _=> ?_ | refine runL_q (qt_indexN tok rfl rfl rfl rfl (fun _=>by omega)) rfl rfl rfl ?_ | refine runL_g rfl rfl (qt_indexN tok rfl rfl rfl rfl (fun _=>by omega)) rfl rfl rfl rfl rfl ?_ | refine runL_q (qt_ldM tok rfl hc rfl) rfl rfl rfl ?_ | refine runL_g rfl rfl (qt_ldM tok rfl hc rfl) rfl rfl rfl rfl rfl ?_ | refine runL_q (qt_ldM0 tok rfl hc rfl) rfl rfl rfl ?_ | refine runL_g rfl rfl (qt_ldM0 tok rfl hc rfl) rfl rfl rfl rfl rfl ?_)
 refine run_cond rfl (fun h=> ?_) (fun h=> ?_)
 ·have hkt:i<x.steps.len:=by simpa using h
  obtain ⟨b2,off2,y,hma,hm,hc2⟩:=SSr.at_ hxi.steps hkt
  have hv:x.steps.v= .slice (some ⟨b2,off2,none⟩) x.steps.len x.steps.cap:=by rw [←hma];rfl
  repeat (first | refine zz ?_ | refine zx fun _=> ?_ | refine runL_q (qt_indexN tok rfl rfl rfl rfl (fun _=>by omega)) rfl rfl rfl ?_ | refine runL_g rfl rfl (qt_indexN tok rfl rfl rfl rfl (fun _=>by omega)) rfl rfl rfl rfl rfl ?_ | refine runL_q (qt_ldM tok rfl hc rfl) rfl rfl rfl ?_ | refine runL_g rfl rfl (qt_ldM tok rfl hc rfl) rfl rfl rfl rfl rfl ?_ | refine runL_q (qt_ldM0 tok rfl hc rfl) rfl rfl rfl ?_ | refine runL_g rfl rfl (qt_ldM0 tok rfl hc rfl) rfl rfl rfl rfl rfl ?_)
  refine runL_as 79 (.slice (some ⟨b2,off2,none⟩) x.steps.len x.steps.cap) rfl hv ?_
  repeat (first | refine zz ?_ | refine zx fun _=> ?_ | refine runL_g rfl rfl (Qt.as (v':=Value.slice (some ⟨b2,off2,none⟩) x.steps.len x.steps.cap) (qt_ldM tok rfl hc rfl) hv) rfl rfl rfl rfl rfl ?_ | refine runL_q (qt_indexN tok rfl rfl rfl rfl (fun _=>by omega)) rfl rfl rfl ?_ | refine runL_g rfl rfl (qt_indexN tok rfl rfl rfl rfl (fun _=>by omega)) rfl rfl rfl rfl rfl ?_ | refine runL_q (qt_ldM tok rfl hc2 rfl) rfl rfl rfl ?_ | refine runL_g rfl rfl (qt_ldM tok rfl hc2 rfl) rfl rfl rfl rfl rfl ?_ | refine runL_q (qt_ldM0 tok rfl hc2 rfl) rfl rfl rfl ?_ | refine runL_g rfl rfl (qt_ldM0 tok rfl hc2 rfl) rfl rfl rfl rfl rfl ?_ | refine runL_q (qt_indexN tok rfl rfl rfl rfl (fun _=>by omega)) rfl rfl rfl ?_ | refine runL_g rfl rfl (qt_indexN tok rfl rfl rfl rfl (fun _=>by omega)) rfl rfl rfl rfl rfl ?_ | refine runL_q (qt_ldM tok rfl hc rfl) rfl rfl rfl ?_ | refine runL_g rfl rfl (qt_ldM tok rfl hc rfl) rfl rfl rfl rfl rfl ?_ | refine runL_q (qt_ldM0 tok rfl hc rfl) rfl rfl rfl ?_ | refine runL_g rfl rfl (qt_ldM0 tok rfl hc rfl) rfl rfl rfl rfl rfl ?_)
  refine run_cond rfl (fun h=> ?_) (fun h=> ?_)
  ·repeat (first | refine zz ?_ | refine zx fun _=> ?_)
   exact run_ret hC (rs:= [.tmp 2]) rfl (resT rfl resN) (fun _ h=>h) ⟨rfl,rfl,true,rfl,fun e=>by cases e⟩
  have h8:y.text.size≤4096∧y.list.len≤100:=by
   have h':(decide ((y.text.size:Int)>4096)||decide ((y.list.len:Int)>100))=false:=h
   simp only [Bool.or_eq_false_iff,decide_eq_false_iff_not] at h'
   omega
  repeat (first | refine zz ?_ | refine zx fun _=> ?_ | refine runL_q (qt_indexN tok rfl rfl rfl rfl (fun _=>by omega)) rfl rfl rfl ?_ | refine runL_g rfl rfl (qt_indexN tok rfl rfl rfl rfl (fun _=>by omega)) rfl rfl rfl rfl rfl ?_ | refine runL_q (qt_ldM tok rfl hc rfl) rfl rfl rfl ?_ | refine runL_g rfl rfl (qt_ldM tok rfl hc rfl) rfl rfl rfl rfl rfl ?_ | refine runL_q (qt_ldM0 tok rfl hc rfl) rfl rfl rfl ?_ | refine runL_g rfl rfl (qt_ldM0 tok rfl hc rfl) rfl rfl rfl rfl rfl ?_)
  refine runL_as 104 (.slice (some ⟨b2,off2,none⟩) x.steps.len x.steps.cap) rfl hv ?_
  repeat (first | refine zz ?_ | refine zx fun _=> ?_ | refine runL_q (qt_indexN tok rfl rfl rfl rfl (fun _=>by omega)) rfl rfl rfl ?_ | refine runL_g rfl rfl (qt_indexN tok rfl rfl rfl rfl (fun _=>by omega)) rfl rfl rfl rfl rfl ?_ | refine runL_q (qt_ldM tok rfl hc2 rfl) rfl rfl rfl ?_ | refine runL_g rfl rfl (qt_ldM tok rfl hc2 rfl) rfl rfl rfl rfl rfl ?_ | refine runL_q (qt_ldM0 tok rfl hc2 rfl) rfl rfl rfl ?_ | refine runL_g rfl rfl (qt_ldM0 tok rfl hc2 rfl) rfl rfl rfl rfl rfl ?_)
  exact run_sub' (hnx _ _ _ ⟨hkt,rfl,rfl,all_cons_snoc hm hpres h8,_,rfl⟩) ⟨lk_succ rfl (by omega),rfl,rfl,rfl,trivial⟩
 have hges:i=x.steps.len:=by simp at h;omega
 rw [hges,List.take_of_length_le (by omega)] at hpres
 repeat (first | refine zz ?_ | refine zx fun _=> ?_)
 exact run_sub' (hnext _ _ _ ⟨hlt,rfl,rfl,all_cons_snoc hx hpre ⟨h20.1,h20.2,hpreg,hpres⟩,_,rfl⟩) ⟨lk_succ rfl (by omega),rfl,rfl,trivial⟩
theorem AxIn.le {M M':Mem} {x:Ax} (hm:M.le M') (h:AxIn M x):AxIn M' x:=⟨h.gives.le hm,h.steps.le hm,fun y hy=>(h.each y hy).le hm⟩
theorem seqC5 {f:ByteArray→ByteArray} : ∀ {ps:List ByteArray} (first:Bool),(∀p∈ps,(f p).size+2≤5*p.size)→(seqC sepB first (ps.map f)).size≤5*(cat ps).size
 | [],_,_=>Nat.zero_le _
 | p::ps,first,h=>by
   have h1:=h p List.mem_cons_self
   have ih:=seqC5 (ps:=ps) false fun q hq=>h q (List.mem_cons_of_mem _ hq)
   have hsep:sepB.size=2:=rfl
   have h2:(if first=true then f p else sepB++f p).size≤(f p).size+2:=by
    split
    ·omega
    ·rw [app_size];omega
   rw [List.map_cons,seqC,app_size,cat,app_size];omega
theorem line5: ∀(d:Nat),d≤16→ ∀(t:ByteArray),Tm d t→t.size<4611686018427387904→(lineB d t).size+2≤5*t.size
 | 0,_,_,h,_=>h.elim
 | d+1,hd,t,ht,hz=>by
   have hpos:=ht.pos
   have h0:(textN t).1.size+1≤t.size:=by
    unfold textN
    split
    ·have h1:=textR_sz (rest1 t) 1024
     have h2:(rest1 t).size=t.size-1:=rest1_size
     show (textR (rest1 t) 1024).1.size+1≤_
     omega
    ·show 0+1≤_;omega
   have h2:=datum_size (textN t).1
   obtain ⟨hh,ps,k1,rfl,k3⟩:=ht
   have hhp:=k1.pos
   have e1:(⟨#[36]⟩:ByteArray).size=1:=rfl
   have e2:(⟨#[91]⟩:ByteArray).size=1:=rfl
   have e3:(⟨#[93]⟩:ByteArray).size=1:=rfl
   have e4:(⟨#[40]⟩:ByteArray).size=1:=rfl
   have e5:(⟨#[41]⟩:ByteArray).size=1:=rfl
   have hs:(hh++cat ps).size=hh.size+(cat ps).size:=app_size _ _
   have hsq:=seqC5 (f:=lineB d) (ps:=ps) true fun p hp=>line5 d (by omega) p (k3 p hp) (by have:=cat_mem hp;omega)
   rw [lineB,parts_of (by omega) k1 k3 (by omega)]
   repeat' split
   ·omega
   ·rw [app_size];omega
   ·rw [app_size,app_size];omega
   ·rw [app_size,app_size,app_size,ByteArray.size_extract];omega
theorem lineE5 {t:ByteArray} (ht:t.size<1000000):(lineE t).1.size≤5*t.size∧(lineE t).1.size≤81920:=by
 unfold lineE
 by_cases h0:mayB t=true
 ·rw [if_pos h0]
  obtain ⟨hT,hz2⟩:=(mayB_iff (by omega)).1 h0
  have:=line5 16 (Nat.le_refl _) t hT (by omega)
  generalize lineB 16 t=u at*
  exact ⟨by show u.size≤_;omega,by show u.size≤_;omega⟩
 ·rw [if_neg h0];exact ⟨Nat.zero_le _,Nat.zero_le _⟩
theorem stepT5 {x:Sp} (h:SpP x):(stepT x).size≤5300:=by
 have h1:=kW_sz x.do_
 have h2:=fsB_sz h (kO x.do_)
 have h4:(kO x.do_).length≤3:=by
  unfold kO
  repeat' split
  all_goals decide
 have h3:(tailT x).size≤5200:=by
  unfold tailT
  split
  ·have htx:=h.text
   have hdz:(dataE x.text).1.size≤1034:=by
    have:=textB_sz (t:=x.text) (by omega)
    rw [dataE,if_neg (by omega)]
    show ((⟨#[100]⟩:ByteArray)++textB x.text).size≤_
    rw [app_size,show (⟨#[100]⟩:ByteArray).size=1 from rfl];omega
   have h5:=(lineE5 (t:=(dataE x.text).1) (by omega)).1
   have h6:sp1.size=1:=rfl
   rw [app_size];omega
  split
  ·have:=rwB_sz h.list
   have:=h.len
   omega
  ·exact Nat.zero_le _
 rw [stepT,app_size,app_size];omega
theorem stepsT5 {l:List Sp} (h: ∀x∈l,SpP x) (h64:l.length≤64):(stepsT l).size≤340000:=by
 unfold stepsT
 split
 ·decide
 ·have:=seqC_sz (c:=5300) (l.map stepT) true fun t ht=>by
   obtain ⟨x,hx,rfl⟩:=List.mem_map.1 ht
   exact stepT5 (h x hx)
  rw [List.length_map] at this;omega
theorem nameT_sz {names:List ByteArray} (hn: ∀x∈names,x.size≤256) (n:Int):(nameT names n).size≤256:=by
 unfold nameT
 cases hg:names[n.toNat]? with
 | none=>exact Nat.zero_le _
 | some y=>exact hn y (List.mem_of_getElem? hg)
theorem givesT5 {names:List ByteArray} (hn: ∀x∈names,x.size≤256): ∀ {l:List Mb} (f:Bool),(∀m∈l,m.digest.size<1000000)→(givesT names f l).size≤82200*l.length
 | [],_,_=>Nat.zero_le _
 | m::l,f,h=>by
   have h1:=nameT_sz hn m.org
   have h2:=(lineE5 (h m List.mem_cons_self)).2
   have h3:=givesT5 hn (l:=l) false fun y hy=>h y (List.mem_cons_of_mem _ hy)
   have h4:sp1.size=1:=rfl
   have h5:(if f=true then colB else semB).size=2:=by split <;> rfl
   rw [givesT,giveT,app_size,app_size,app_size,app_size,List.length_cons];omega
theorem txnT5 {names:List ByteArray} (hn: ∀x∈names,x.size≤256) {t:Tx} (h:mayTx t=true):(txnT names t).size≤300:=by
 have h0:=nameT_sz hn t.coord
 have h1:=dgB_sz (txIn h).2.1.2
 have h2:=dgB_sz (txIn h).2.2.2
 have h3:slB.size=1:=rfl
 simp only [txnT,app_size];omega
theorem lineT5 {names:List ByteArray} (hn: ∀x∈names,x.size≤256) {a:Aa} (ha:AcP a) (hd: ∀m∈a.gives,m.digest.size<1000000):(lineT names a).size<1000000:=by
 have h0:=nameT_sz hn a.org
 have hdn:=dgB_sz (n:=a.n) (by have:=ha.fit.n.2;omega)
 have e1:wPost.size=5:=rfl
 have e2:wComes.size=6:=rfl
 have e3:vBegins.size=12:=rfl
 have e4:vYes.size=13:=rfl
 have e5:vNo.size=12:=rfl
 have e6:vTicks.size=6:=rfl
 have e7:vAnew.size=12:=rfl
 have e8:vStops.size=14:=rfl
 have e9:vCrash.size=19:=rfl
 have ea:vGets.size=6:=rfl
 have eb:vJudges.size=8:=rfl
 have ec:vShows.size=7:=rfl
 cases ha with
 | begin_ o au g q1 q2 q3 q4=>
   have h1:=nameT_sz hn au
   have h2:=givesT5 hn (l:=g) true hd
   show (nameT names o++((vBegins++nameT names au)++givesT names true g)).size<_
   simp only at h0
   rw [app_size,app_size,app_size];omega
 | submit o t y q1 q2=>
   have h1:=txnT5 hn q2
   have h2:(if y=true then vYes else vNo).size≤13:=by split <;> omega
   show (nameT names o++((if y=true then vYes else vNo)++txnT names t)).size<_
   simp only at h0
   rw [app_size,app_size];omega
 | tick o q1=>
   show (nameT names o++vTicks).size<_
   simp only at h0
   rw [app_size];omega
 | deliver n q1=>
   show ((wPost++dgB n)++wComes).size<_
   simp only at hdn
   rw [app_size,app_size];omega
 | inject o l q1 q2 q3=>
   have h1:=stepsT5 q3 q2
   show (nameT names o++(vGets++stepsT l)).size<_
   simp only at h0
   rw [app_size,app_size];omega
 | arm o n q1 q2=>
   show (nameT names o++(vStops++dgB n)).size<_
   simp only at h0 hdn
   rw [app_size,app_size];omega
 | crash o n q1 q2=>
   show (nameT names o++(vCrash++dgB n)).size<_
   simp only at h0 hdn
   rw [app_size,app_size];omega
 | restart o q1=>
   show (nameT names o++vAnew).size<_
   simp only at h0
   rw [app_size];omega
 | exprt o t q1 q2=>
   have h1:=txnT5 hn q2
   show (nameT names o++(vShows++txnT names t)).size<_
   simp only at h0
   rw [app_size,app_size];omega
 | present o l q1 q2 q3=>
   have h1:=stepsT5 q3 q2
   show (nameT names o++(vJudges++stepsT l)).size<_
   simp only at h0
   rw [app_size,app_size];omega
theorem lineA5 {names:List ByteArray} (hn: ∀x∈names,x.size≤256) {a:Aa} (hd: ∀m∈a.gives,m.digest.size<1000000):(lineA names a).1.size<1000000:=by
 obtain ⟨h1,h2⟩:=line_doc names a
 by_cases h:rollB names=true∧AcP a∧MayL names.length a
 ·rw [h1 h];exact lineT5 hn h.2.1 hd
 ·rw [h2 h];show 0<_;decide
theorem stOneT (r:ByteArray): ∀u∈stC r,u.oneCell'=true:=by intro u hu;simp [stC] at hu;subst hu;rfl
theorem osCap {e size n:Nat} {v:Value} {xs:List Value} {N:HL} (h:OS e size v n xs N): ∃a c,v= .slice a n c∧n≤c:=by
 rcases h with ⟨rfl,rfl,_,_⟩ | ⟨b,cap,cs,rfl,_,hle,_⟩
 ·exact ⟨none,0,rfl,Nat.le_refl _⟩
 ·exact ⟨_,cap,rfl,hle⟩
theorem rown_ok (M:Mem) (L:HL) (S:SStr) (hS:StOk M S):Tr Tryz.prog 12 [S.v] M L (fun v M' L'=>M.le M'∧L'=L∧ ∃T:SStr,v=T.v∧StOk M' T∧T.xs=S.xs∧T.len≤T.cap):=by
 have hl:=hS.len
 have h6:=hS.2
 have h0:=hS.1
 obtain ⟨sa,sn,sc,xs⟩:=S
 simp only [SStr.v] at*
 refine Tr.intro 5 Tryz.func12 rfl rfl Tryz.call12 rfl ?_;intro C hC hro
 repeat (first | refine zc ?_ | refine vq ?_)
 refine runL_op (st_appendG (xs:= []) (n:=0) (m:=sn) (news:=(xs.map stC).flatten) tok rfl rfl rfl rfl rfl rfl rfl rfl (N:= []) (List.Perm.refl _) (OS.nil _ _) (SrcG.ofSlM h0) (rFlatOne stOneT _) (by omega) (by omega)) rfl rfl rfl ?_
 rintro v7 _ _ ⟨N1,rfl,rfl,hO1⟩
 rw [Nat.zero_add,List.nil_append] at hO1
 obtain ⟨a7,c7,rfl,hle⟩:=osCap hO1
 repeat (first | refine yy ?_ | refine yx fun _=> ?_)
 refine run_retE hC (rs:= [.tmp 2]) rfl (resT rfl resN) fun w hw=> ?_
 obtain ⟨M2,a2,c2,q1,q2,q3,q4⟩:=hw.freezeOS hO1 (by rw [List.length_map];exact hl) (fun c hc=>by obtain ⟨x,_,rfl⟩:=List.mem_map.1 hc;rfl)
 injection q3 with e1 e2 e3
 subst e1 e3
 exact ⟨M2,L,q2,q1,rfl,⟨a7,sn,c7,xs⟩,rfl,⟨q4,h6⟩,rfl,hle⟩
theorem st_copyM {P:Program} {T:TT} {ro:Option Nat} {σ:Env} {δ:Den} {M:Mem} {L:HL} {d:Option Nat} {ty:TypeId} {pos:String} {aft:Array Edge} {g:Option (Nat×Bool)} {cur:Path} {x y:Operand} {t e sz by_:Nat} {z:Value} {α:Type} {f:α→List Value} {xs:List α} {a:Option Addr} {n c:Nat}
 (hT:TOk P T) (hx:ev σ δ cur x=some (.slice none 0 0)) (hy:ev σ δ cur y=some (.slice a n c)) (ht:und T t=some (.slice e)) (hi:sizeT T e=some sz) (hz:zeroT T e=some z) (hzs:(cellsL z).length=sz) (hb:bytesT T e=some by_) (hby:Nat.ble 1 by_=true)
 (hs:SlM M sz a n (xs.map f)) (hf: ∀r,∀u∈f r,u.oneCell'=true) (hfl: ∀l∈xs.map f,l.length=sz) (hroom:(2*(0+n)+192)*by_≤281474976710656) (h63:0+n<9223372036854775808):
 St P ro ⟨d,.call ⟨.builtin .append,#[x,y],#[t,t]⟩,ty,pos,aft,g⟩ σ δ cur M L (fun v M' L'=>M.le M'∧L=L'∧ ∃a' c',v= .slice a' n c'∧SlM M' sz a' n (xs.map f)):=by
 refine St.frz (st_appendG (xs:= []) (n:=0) (m:=n) hT hx hy ht hi hz hzs hb hby (N:= []) (List.Perm.refl _) (OS.nil _ _) (SrcG.ofSlM hs) (rFlatOne hf _) hroom h63) ?_
 rintro v M' L' w hw ⟨N',rfl,rfl,hO⟩
 rw [Nat.zero_add,List.nil_append] at hO
 obtain ⟨M2,a',c',h1,h2,h3,h4⟩:=hw.freezeOS hO hs.1 hfl
 exact ⟨M2,_,h2,h1,rfl,a',c',h3,h4⟩
theorem mb_all (xs:List Mb): ∀l∈xs.map mbC,l.length=2:=by intro l hl;obtain ⟨p,_,rfl⟩:=List.mem_map.1 hl;rfl
theorem mbOne (r:Mb): ∀u∈mbC r,u.oneCell'=true:=by intro u hu;simp [mbC] at hu;rcases hu with rfl | rfl <;> rfl
theorem srOne (r:Sr): ∀u∈srC r,u.oneCell'=true:=by
 intro u hu
 simp only [srC,List.mem_cons,List.not_mem_nil,or_false] at hu
 rcases hu with rfl | rfl | rfl | rfl | rfl | rfl | rfl <;> rfl
theorem inOne' (r:Int): ∀u∈inC r,u.oneCell'=true:=by intro u hu;simp [inC] at hu;subst hu;rfl
theorem axOne' (r:Ax): ∀u∈axC r,u.oneCell'=true:=by
 intro u hu
 simp only [axC,List.mem_cons,List.not_mem_nil,or_false] at hu
 rcases hu with rfl | rfl | rfl | rfl | rfl | rfl | rfl | rfl | rfl | rfl <;> rfl
theorem sr_all' (xs:List Sr): ∀l∈xs.map srC,l.length=7:=by intro l hl;obtain ⟨p,_,rfl⟩:=List.mem_map.1 hl;rfl
theorem in_all' (xs:List Int): ∀l∈xs.map inC,l.length=1:=by intro l hl;obtain ⟨p,_,rfl⟩:=List.mem_map.1 hl;rfl
theorem ax_all' (xs:List Ax): ∀l∈xs.map axC,l.length=10:=by intro l hl;obtain ⟨p,_,rfl⟩:=List.mem_map.1 hl;rfl
theorem axFlat' (l:List Ax) (x:Ax):(l.map axC).flatten++axC x=((l++ [x]).map axC).flatten:=by simp
abbrev axB' (b:Nat) (x:Ax):Nat×Obj:=(b,.cells ⟨axC x⟩ 28 (0,0))
theorem osSlY {e size n:Nat} {v:Value} {xs:List Value} {N:HL} (h:OS e size v n xs N): ∃a cap,v= .slice a n cap:=by
 rcases h with ⟨rfl,rfl,_,_⟩ | ⟨b,cap,cs,rfl,_⟩
 ·exact ⟨none,0,rfl⟩
 ·exact ⟨_,cap,rfl⟩
set_option maxRecDepth 10000 in
theorem sown_os (M:Mem) (L:HL) (s:SAx) (hs:SaOk M s):Tr Tryz.prog 23 [s.v] M L (fun v M' L'=>M.le M'∧ ∃(ys:List Ax) (N:HL),ys.length=s.len∧ys.map Ax.aa=s.xs.map Ax.aa∧(∀y∈ys,AxOk M' y)∧OS 28 10 v s.len (ys.map axC).flatten N∧L'=N++L):=by
 have hlen:=hs.len
 have hlt0:=hs.lt
 obtain ⟨la,ln,lc,xs⟩:=s
 simp only [SAx.v] at*
 refine Tr.intro 49 Tryz.func23 rfl rfl Tryz.call23 rfl ?_;intro C hC hro
 repeat (first | refine zz ?_ | refine zx fun _=> ?_)
 refine run_loopN (fun j σ1 M1 L1=>j≤ln∧M.le M1∧ ∃(ys:List Ax) (v:Value) (N:HL),ys.length=j∧ys.map Ax.aa=(xs.take j).map Ax.aa∧(∀x∈ys,AxOk M1 x)∧OS 28 10 v j (ys.map axC).flatten N∧L1=N++L∧σ1= [(4,.int .i64 (j:Int)),(3,v),(0,.slice la ln lc)]) ln [(4,.int .i64 ((0:Nat):Int)),(3,.slice none 0 0),(0,.slice la ln lc)] ?_ ⟨Nat.zero_le _,Mem.le_refl _,[],.slice none 0 0,[],rfl,by simp,(fun x hx=>by cases hx),OS.nil _ _,rfl,rfl⟩ (fun j _ _ _ h=>h.1) ?_
 ·exact ⟨rfl,rfl,rfl,trivial⟩
 rintro j _ M1 _ ⟨hj,hM1,ys,v,N,hyl,hya,hyw,hO,rfl,rfl⟩ hnext
 repeat (first | refine zz ?_ | refine zx fun _=> ?_)
 refine run_cond rfl (fun h=> ?_) (fun h=> ?_)
 rotate_left
 ·have hge:j=ln:=by simp at h;omega
  subst hge
  rw [List.take_of_length_le (by omega)] at hya
  clear hnext
  refine run_exit rfl ?_
  repeat (first | refine zz ?_ | refine zx fun _=> ?_)
  exact run_ret hC (rs:= [.tmp 2]) rfl (resT rfl resN) (fun _ h=>h) ⟨hM1,ys,N,hyl,hya,hyw,hO,rfl⟩
 have hlt:j<ln:=by simpa using h
 obtain ⟨b,off,x,rfl,hx,hc⟩:=SAx.at_ (hs.le hM1).sl hlt
 have hxo:=(hs.le hM1).each x (List.mem_of_getElem? hx)
 have g6:=hxo.gives.2
 have s6:=hxo.steps.lt
 have sl6:=hxo.steps.len
 repeat (first | refine zz ?_ | refine zx fun _=> ?_ | refine runL_q (qt_indexN tok rfl rfl rfl rfl (fun _=>by omega)) rfl rfl rfl ?_ | refine runL_g rfl rfl (qt_indexN tok rfl rfl rfl rfl (fun _=>by omega)) rfl rfl rfl rfl rfl ?_ | refine runL_q (qt_ldM tok rfl hc rfl) rfl rfl rfl ?_ | refine runL_g rfl rfl (qt_ldM tok rfl hc rfl) rfl rfl rfl rfl rfl ?_ | refine runL_q (qt_ldM0 tok rfl hc rfl) rfl rfl rfl ?_ | refine runL_g rfl rfl (qt_ldM0 tok rfl hc rfl) rfl rfl rfl rfl rfl ?_)
 rename_i b5
 refine runL_op (st_copyM (xs:=x.gives.xs) (f:=mbC) tok rfl rfl rfl rfl rfl rfl rfl rfl hxo.gives.1 mbOne (mb_all _) (by omega) (by omega)) rfl rfl rfl ?_
 rintro _ M2 _ ⟨hM2,rfl,a1,c1,rfl,hs1⟩
 repeat (first | refine zz ?_ | refine zx fun _=> ?_)
 refine runL_op (st_appendG (xs:= []) (n:=0) (m:=x.steps.len) (news:=(x.steps.xs.map srC).flatten) tok rfl rfl rfl rfl rfl rfl rfl rfl (N:= []) (List.Perm.refl _) (OS.nil _ _) (SrcG.ofSlM (hxo.steps.le hM2).sl) (rFlatOne srOne _) (by omega) (by omega)) rfl rfl rfl ?_
 rintro v7 _ _ ⟨N1,rfl,rfl,hO1⟩
 rw [Nat.zero_add,List.nil_append] at hO1
 obtain ⟨a7,c7,rfl⟩:=osSlY hO1
 repeat (first | refine zz ?_ | refine zx fun _=> ?_)
 generalize hx1:({ x with gives:=⟨a1,x.gives.len,c1,x.gives.xs⟩,steps:=⟨a7,x.steps.len,c7,[]⟩ } :Ax)=x1
 have hv1:x1.steps.v= .slice a7 x.steps.len c7:=by rw [←hx1];rfl
 have hl1:x1.steps.len=x.steps.len:=by rw [←hx1]
 refine run_mem (M':=M2) (L':=axB' b5 x1::(N1++(N++L))) (fun w h=>by rw [←hx1];exact h.perm List.perm_middle) ?_
 refine run_loopN (fun i σ1 M4 L1=>i≤x.steps.len∧M2.le M4∧ ∃(zs:List Sr) (N2:HL),zs.length=x.steps.len∧zs.map Sr.sp=x.steps.xs.map Sr.sp∧(∀z∈zs,SrOk M4 z)∧OS 60 7 (.slice a7 x.steps.len c7) x.steps.len (zs.map srC).flatten N2∧L1=axB' b5 x1::(N2++(N++L))∧σ1= [(6,.int .i64 (i:Int)),(5,.pointer (some ⟨b5,0,none⟩)),(4,.int .i64 (j:Int)),(3,v),(0,.slice (some ⟨b,off,none⟩) ln lc)]) x.steps.len [(6,.int .i64 ((0:Nat):Int)),(5,.pointer (some ⟨b5,0,none⟩)),(4,.int .i64 (j:Int)),(3,v),(0,.slice (some ⟨b,off,none⟩) ln lc)] ?_ ⟨Nat.zero_le _,Mem.le_refl _,x.steps.xs,N1,sl6,rfl,(fun z hz=>(hxo.steps.each z hz).le hM2),hO1,rfl,rfl⟩ (fun i _ _ _ h=>h.1) ?_
 ·exact ⟨rfl,rfl,rfl,rfl,rfl,trivial⟩
 rintro i _ M4 _ ⟨hi,hM4,zs,N2,hzl,hzs,hzo,hO2,rfl,rfl⟩ hnx
 repeat (first | refine zz ?_ | refine zx fun _=> ?_)
 refine run_cond rfl (fun h=> ?_) (fun h=> ?_)
 ·have hit:i<x.steps.len:=by simpa [hl1] using h
  obtain ⟨z,hz⟩: ∃z,zs[i]? =some z:=⟨_,List.getElem?_eq_getElem (by omega)⟩
  have hzk:(zs.map srC)[i]? =some (srC z):=by rw [List.getElem?_map,hz];rfl
  have hzz:=hzo z (List.mem_of_getElem? hz)
  have z6:=hzz.list.2
  obtain ⟨b7,cap,pre,post,hv7,rfl,hpl,hset⟩:=hO2.mid (sr_all' zs) (by simpa using hzl) hzk
  obtain ⟨rfl,_,rfl⟩:=(Value.slice.injEq _ _ _ _ _ _).mp hv7
  have hseg:SegAt (pre++(srC z++post)) (0+i*7) (srC z):=by have:=SegAt.mid pre (srC z) post;rwa [hpl,←Nat.zero_add (i*7)] at this
  refine run_mem (M':=M4) (L':=axB' b5 x1::(b7,.cells ⟨pre++(srC z++post)⟩ 60 (0,0))::(N++L)) (fun _ h=>h) ?_
  repeat (first | refine zz ?_ | refine zx fun _=> ?_)
  repeat (first | refine zz ?_ | refine zx fun _=> ?_ | refine dd ?_ | refine dz ?_ | refine dx fun _=> ?_)
  refine pr_as 36 (.slice (some ⟨b7,0,none⟩) x.steps.len c7) rfl hv1 ?_
  refine pr_as 33 (.slice (some ⟨b7,0,none⟩) x.steps.len c7) rfl hv1 ?_
  have hst: ∀l:SIn,setE (pre++(srC z++post)) (0+i*7+6) [l.v]=some (pre++(srC { z with list:=l } ++post)):=fun l=>by have:=setE_mid (pre:=pre) (post:=post) (x:=srC z) (x':=srC { z with list:=l }) (vs:= [l.v]) (j:=6) rfl;rwa [hpl,←Nat.zero_add (i*7)] at this
  repeat (first | refine zz ?_ | refine zx fun _=> ?_ | refine dd ?_ | refine dz ?_ | refine dx fun _=> ?_ | refine prn_q rfl (qt_indexN tok rfl rfl rfl rfl (fun _=>by omega)) (by decide+kernel) rfl rfl rfl ?_ | refine prn_q rfl (qt_ldB (k:=6) tok rfl hseg (List.mem_cons_of_mem _ List.mem_cons_self) rfl) (by decide+kernel) rfl rfl rfl ?_)
  refine prn_o1 rfl (st_copyM (xs:=z.list.xs) (f:=inC) tok rfl rfl rfl rfl rfl rfl rfl rfl hzz.list.1 inOne' (in_all' _) (by omega) (by omega)) (by decide+kernel) rfl rfl rfl ?_
  rintro _ M5 _ ⟨hM5,rfl,a9,c9,rfl,hs9⟩
  refine ⟨by (repeat (first | exact trivial | refine And.intro (pend_q rfl rfl rfl (qt_pev tok rfl)) ?_ | refine And.intro (pend_q rfl rfl rfl (ql tok rfl)) ?_ | refine And.intro (pend_q rfl rfl rfl (Qt.as (v':=Value.slice (some ⟨b7,0,none⟩) x.steps.len c7) (ql tok rfl) hv1)) ?_ | refine And.intro (pend_q rfl rfl rfl (qt_indexN tok rfl rfl rfl rfl (fun _=>by omega))) ?_ | refine And.intro (pend_q rfl rfl rfl (qt_ldB (k:=6) tok rfl hseg (List.mem_cons_of_mem _ List.mem_cons_self) rfl)) ?_)), ?_⟩
  repeat (first | refine zz ?_ | refine zx fun _=> ?_ | refine dd ?_ | refine dz ?_ | refine dx fun _=> ?_ | refine prn_q rfl (qt_indexN tok rfl rfl rfl rfl (fun _=>by omega)) (by decide+kernel) rfl rfl rfl ?_)
  refine prn_o0 rfl (st_store tok rfl rfl rfl rfl rfl (by (repeat (first | with_reducible apply Upd.here | with_reducible apply Upd.there | with_reducible apply Upd.append_left))) (hst ⟨a9,z.list.len,c9,z.list.xs⟩)) (by decide+kernel) ?_
  rintro _ _ _ ⟨rfl,rfl,rfl⟩
  refine ⟨by (repeat (first | exact trivial | refine And.intro (pend_q rfl rfl rfl (qt_pev tok rfl)) ?_ | refine And.intro (pend_q rfl rfl rfl (ql tok rfl)) ?_)), ?_⟩
  repeat (first | refine zz ?_ | refine zx fun _=> ?_ | refine dd ?_ | refine dz ?_ | refine dx fun _=> ?_)
  have hset':=hset (srC { z with list:=⟨a9,z.list.len,c9,z.list.xs⟩ }) rfl
  rw [show (zs.map srC).set i (srC { z with list:=⟨a9,z.list.len,c9,z.list.xs⟩ })=(zs.set i { z with list:=⟨a9,z.list.len,c9,z.list.xs⟩ }).map srC by rw [List.map_set]] at hset'
  refine run_sub' (hnx _ _ _ ⟨hit,Mem.le_trans hM4 hM5,_,_,by rw [List.length_set];exact hzl, ?_, ?_,hset',rfl,rfl⟩) ⟨lk_succ rfl (by omega),rfl,rfl,rfl,rfl,trivial⟩
  ·rw [List.map_set,←hzs]
   have e:(zs.map Sr.sp)[i]? =some z.sp:=by rw [List.getElem?_map,hz];rfl
   have e2:Sr.sp { z with list:=⟨a9,z.list.len,c9,z.list.xs⟩ } =z.sp:=rfl
   rw [e2]
   obtain ⟨hlt',hx'⟩:=List.getElem?_eq_some_iff.1 e
   rw [←hx',List.set_getElem_self]
  ·intro y hy
   rcases List.mem_or_eq_of_mem_set hy with hy | rfl
   ·exact (hzo y hy).le hM5
   ·exact ⟨⟨hs9,z6⟩,hzz.text⟩
 have hge:i=x.steps.len:=by simp [hl1] at h;omega
 subst hge
 clear hnx h
 refine run_exit rfl ?_
 refine run_memE (fun M' L'=>M4.le M'∧SlM M' 7 a7 x.steps.len (zs.map srC)∧L'=axB' b5 x1::(N++L)) (fun w hw=> ?_) ?_
 ·obtain ⟨M',a',c',h1,h2,h3,h4⟩:=(hw.perm (pm1 _ N2 _)).freezeOS hO2 (by simpa using hzl) (sr_all' zs)
  obtain ⟨rfl,_,rfl⟩:=(Value.slice.injEq _ _ _ _ _ _).mp h3
  exact ⟨M',_,h2,h1,h4,rfl⟩
 rintro M5 _ ⟨hM5,hsz,rfl⟩
 have hM25:=Mem.le_trans hM4 hM5
 have hM15:=Mem.le_trans hM2 hM25
 generalize hx2:({ x with gives:=⟨a1,x.gives.len,c1,x.gives.xs⟩,steps:=⟨a7,x.steps.len,c7,zs⟩ } :Ax)=x2
 have hxc:axC x1=axC x2:=by rw [←hx1,←hx2];rfl
 have hw2:AxOk M5 x2:=by
  rw [←hx2]
  exact ⟨⟨hs1.le hM25,g6⟩,⟨hsz,s6,fun y hy=>(hzo y hy).le hM5⟩,hxo.pay⟩
 have ha2:x2.aa=x.aa:=by rw [←hx2];simp only [Ax.aa];rw [hzs]
 refine run_mem (M':=M5) (L':=axB' b5 x2::(N++L)) (fun _ h=>by rw [axB',←hxc];exact h) ?_
 clear hx2 hx1
 repeat (first | refine zz ?_ | refine zx fun _=> ?_)
 refine runL_op (st_append (n:=j) (m:=1) (news:=axC x2) tok rfl rfl rfl rfl rfl rfl rfl rfl (pm2 _ _ N _) hO (.inr ⟨_,0,1,rfl,cellsAll List.mem_cons_self,rfl⟩) (axOne' x2) (by omega) (by omega)) rfl rfl rfl ?_
 rintro v2 _ _ ⟨N',rfl,rfl,hO'⟩
 repeat (first | refine zz ?_ | refine zx fun _=> ?_)
 refine run_mem (fun _ h=>(h.perm (pm2 _ _ N' _).symm).drop.drop) ?_
 refine run_sub' (hnext _ _ _ ⟨hlt,Mem.le_trans hM1 hM15,ys++ [x2],v2,N',by simp [hyl], ?_, ?_,by rw [←axFlat'];exact hO',rfl,rfl⟩) ⟨lk_succ rfl (by omega),rfl,rfl,trivial⟩
 ·rw [take_snoc hx,List.map_append,List.map_append,hya]
  simp [ha2]
 ·intro y hy
  rcases List.mem_append.1 hy with hy | hy
  ·exact (hyw y hy).le hM15
  ·rw [List.mem_singleton.1 hy];exact hw2
theorem sown_ok (M:Mem) (L:HL) (s:SAx) (hs:SaOk M s):Tr Tryz.prog 23 [s.v] M L (fun v M' L'=>M.le M'∧L'=L∧ ∃s':SAx,v=s'.v∧s'.xs.map Ax.aa=s.xs.map Ax.aa∧SaOk M' s'):=by
 have h:=sown_os M L s hs
 refine ⟨h.1,fun w hw=>(h.2 w hw).mono fun v w' ⟨M',L',hp,hM,ys,N,hyl,hya,hyw,hO,hL⟩=> ?_⟩
 subst hL
 obtain ⟨M2,a',c',h1,h2,h3,h4⟩:=hp.freezeOS hO (by simpa using hyl) (ax_all' ys)
 exact ⟨M2,L,h2,Mem.le_trans hM h1,rfl,⟨a',s.len,c',ys⟩,h3,hya,⟨h4,hs.lt,fun y hy=>(hyw y hy).le h1⟩⟩
theorem lnO_pay {names:List ByteArray} : ∀(k n:Nat) {s:ByteArray} {l:List Aa},lnO names k n s= .inr l→ ∀a∈l,∀m∈a.gives,m.digest.size<1000000
 | 0,n,s,l,h=>by cases h;intro a ha;cases ha
 | k+1,n,s,l,h=>by
   rw [lnO] at h
   split at h
   ·cases h;intro a ha;cases ha
   split at h
   rotate_left
   ·cases h
   cases h2:lnO names k (n+1) (cutR s).2.1 with
   | inl m=>rw [h2] at h;cases h
   | inr l'=>
     rw [h2] at h
     cases h
     intro a ha m hm
     rcases List.mem_cons.1 ha with rfl | ha
     ·have:=parse_pay m hm;omega
     ·exact lnO_pay k (n+1) h2 a ha m hm
theorem readA_pay {names:List ByteArray} {s:ByteArray} : ∀a∈(readA names s).1,∀m∈a.gives,m.digest.size<1000000:=by
 unfold readA
 split
 rotate_left
 ·intro a ha;cases ha
 split
 rotate_left
 ·intro a ha;cases ha
 cases h:lnO names s.size 1 s with
 | inl m=>intro a ha;cases ha
 | inr l=>exact lnO_pay _ _ h
theorem linesA_sz {names:List ByteArray} {l:List Aa} :(linesA names l).1.size≤262144:=by
 unfold linesA
 split
 rotate_left
 ·exact Nat.zero_le _
 cases lnsT names l with
 | none=>exact Nat.zero_le _
 | some t=>
   dsimp only
   split
   ·assumption
   ·exact Nat.zero_le _
theorem textRows_ok (M:Mem) (L:HL) (hG:G38 M) (A:SStr) (hA:A.Ok M) (hca:A.len≤A.cap) (l:SAx) (hl:SaIn M l) (s:ByteArray):Tr Tryz.prog 7 [A.v,l.v,.string s] M L (fun v M' L'=>M.le M'∧L'=L∧v= .bool true):=by
 have hlo1:=fun L=>long_ok M L A hA s
 have hlo2:=fun L=>slong_ok M L l hl
 have hal:A.xs.length=A.len:=by have:=hA.1;simpa using this
 refine Tr.intro 121 Tryz.func7 rfl rfl Tryz.call7 rfl ?_;intro C hC hro
 cases hq1:longA A.xs s with
 | true=>
   rw [hq1] at hlo1
   repeat (first | refine yy ?_ | refine yx fun _=> ?_ | refine qc (hlo1 _) ?_)
   repeat (first | refine yk ?_ | refine yx fun _=> ?_)
   refine run_cond (t:=true) rfl (fun _=> ?_) (fun h=>by cases h)
   repeat (first | refine yy ?_ | refine yx fun _=> ?_ | (refine oc (alive_ok _ _ hG) ?_;rintro _ M2 L ⟨hM2,rfl,rfl⟩))
   exact run_ret hC (rs:= [.tmp 6]) rfl (resT rfl resN) (fun _ h=>h) ⟨hM2,rfl,rfl⟩
 | false=>
 rw [hq1] at hlo1
 obtain ⟨la1,la2,la3⟩:=longA_no hq1
 have hA:StOk M A:=⟨hA,by omega⟩
 have hza: ∀x∈A.xs,x.size<1000000:=fun x hx=>by have:=la3 x hx;omega
 repeat (first | refine yy ?_ | refine yx fun _=> ?_ | refine qc (hlo1 _) ?_)
 repeat (first | refine yk ?_ | refine yx fun _=> ?_)
 refine ok (hlo2 _) ?_
 rintro _ _ L ⟨rfl,rfl,bv,rfl,hlim⟩
 repeat (first | refine yk ?_ | refine yx fun _=> ?_)
 cases bv with
 | true=>
   refine run_cond (t:=true) rfl (fun _=> ?_) (fun h=>by cases h)
   repeat (first | refine yy ?_ | refine yx fun _=> ?_ | (refine oc (alive_ok _ _ hG) ?_;rintro _ M2 L ⟨hM2,rfl,rfl⟩))
   exact run_ret hC (rs:= [.tmp 6]) rfl (resT rfl resN) (fun _ h=>h) ⟨hM2,rfl,rfl⟩
 | false=>
 have hli:=hlim rfl
 have hls:=hl.ok hli
 have hdl: ∀a∈l.xs.map Ax.aa,∀m∈a.gives,m.digest.size<1000000:=fun a ha m hm=>by
  obtain ⟨x,hx,rfl⟩:=List.mem_map.1 ha
  have:=(hli.2 x hx).pay m hm;omega
 refine run_cond (t:=false) rfl (fun h=>by cases h) (fun _=> ?_)
 have hown:=fun (M':Mem) L (h:M.le M')=>rown_ok M' L A (hA.le h)
 have hne: ∀s:ByteArray,(!(s.toList==s.toList))=false:=fun s=>by rw [bytes_beq];simp
 have hni: ∀e:Int,(e !=e)=false:=fun e=>by simp
 have hsz: ∀ {q:SAx} {k:List Aa},q.xs.map Ax.aa=k→(∀a∈k,∀m∈a.gives,m.digest.size<1000000)→ ∀x∈q.xs,(lineA A.xs x.aa).1.size<1000000:=fun hq hk x hx=>lineA5 la3 (hk _ (hq▸List.mem_map_of_mem hx))
 have htl: ∀(M':Mem) L (S:SStr) (q:SAx) (k:List Aa),M.le M'→StOk M' S→S.xs=A.xs→S.len≤S.cap→SaOk M' q→q.xs.map Ax.aa=k→(∀a∈k,∀m∈a.gives,m.digest.size<1000000)→TrQ Tryz.prog 22 [S.v,q.v] M' L (.tuple ⟨[.string (linesA A.xs k).1,.int .i64 (linesA A.xs k).2]⟩):=fun M' L S q k h1 h2 h3 h4 h5 h6 h7=>by
  have:=tlines_ok M' L (hG.le h1) S h2 h4 (by rw [h3];exact hza) q h5 (by rw [h3];exact hsz h6 h7)
  rwa [h3,h6] at this
 have htr: ∀(M':Mem) L (S:SStr) t,M.le M'→StOk M' S→S.xs=A.xs→S.len≤S.cap→t.size≤262144→Tr Tryz.prog 25 [S.v,.string t] M' L (raK (readA A.xs t) M' L):=fun M' L S t h1 h2 h3 h4 h5=>by
  have:=tread_ok M' L (hG.le h1) S h2 h4 (by rw [h3];exact hza) t (by omega)
  rwa [h3] at this
 have hrl:=fun (M':Mem) L (h:M.le M')=>rlines_ok M' L (hG.le h) A (hA.le h) hza l (hls.le h) (hsz rfl hdl)
 have hrr:=fun (M':Mem) L (h:M.le M')=>rread_ok M' L (hG.le h) A (hA.le h) hza s (by omega)
 have hsw:=fun (M':Mem) L (h:M.le M')=>sown_ok M' L l (hls.le h)
 have hback:=lines_read (names:=A.xs) hdl
 have hrd:=read_lines (names:=A.xs) (s:=s)
 have hpay:=readA_pay (names:=A.xs) (s:=s)
 have hlz:=linesA_sz (names:=A.xs) (l:=l.xs.map Ax.aa)
 repeat (first | refine yy ?_ | refine yx fun _=> ?_ | (refine oc (hown _ _ (Mem.le_refl _)) ?_;rintro _ M1 L ⟨hM1,rfl,T,rfl,hT,hTx,hTc⟩) | (refine oc (hsw _ _ hM1) ?_;rintro _ M2 L ⟨hM2,rfl,l',rfl,hlx,hl'⟩))
 have hM02:=Mem.le_trans hM1 hM2
 have ht1:=fun L=>htl M2 L T l' _ hM02 (hT.le hM2) hTx hTc hl' hlx hdl
 have hr1:=fun L=>hrl M2 L hM02
 generalize linesA A.xs (l.xs.map Ax.aa)=p at*
 repeat (first | refine zc ?_ | refine vq ?_ | refine qc (ht1 _) ?_ | refine qc (hr1 _) ?_)
 refine runL_as 47 (.bool false) rfl (congrArg Value.bool (hne _)) ?_
 repeat (first | refine yk ?_ | refine yx fun _=> ?_)
 refine run_cond (t:=false) (congrArg (fun z=>some (Value.bool z)) (hni _)) (fun h=>by cases h) (fun _=> ?_)
 repeat (first | refine yy ?_ | refine yx fun _=> ?_)
 refine run_condI (fun σ' M' L'=>M2.le M'∧L'=L∧σ'= [(0,A.v),(1,l.v),(2,.string s)]) (t:=p.2==0) rfl (fun h hk=> ?_) (fun h hk=> ?_) ?_
 ·have hb:=hback (by simpa using h)
  have hAr:=htr M2 L A p.1 hM02 (hA.le hM02) rfl hca hlz
  rw [hb] at hAr
  repeat (first | refine zc ?_ | refine vq ?_)
  refine oc hAr ?_
  rintro _ M3 L ⟨hM3,rfl,q,hq,hqa,_,rfl⟩
  repeat (first | refine zc ?_ | refine vq ?_)
  refine runL_as 63 (.bool false) rfl rfl ?_
  iterate 4 (first | refine yk ?_ | fail)
  refine runL_as 67 (.bool false) rfl rfl ?_
  repeat (first | refine yk ?_ | refine yx fun _=> ?_)
  refine kc (refSame_ok _ _ q l hq (hls.le (Mem.le_trans hM02 hM3)) true ⟨fun _=>hqa,fun _=>rfl⟩) ?_
  repeat (first | refine yk ?_ | refine yx fun _=> ?_)
  refine run_cond (t:=false) rfl (fun h=>by cases h) (fun _=> ?_)
  refine yy ?_
  exact run_sub' (hk _ _ _ ⟨hM3,rfl,rfl⟩) ⟨rfl,rfl,rfl,trivial⟩
 ·refine yy ?_
  exact run_sub' (hk _ _ _ ⟨Mem.le_refl _,rfl,rfl⟩) ⟨rfl,rfl,rfl,trivial⟩
 rintro _ M3 L ⟨hM3,rfl,rfl⟩
 have hM03:=Mem.le_trans hM02 hM3
 clear ht1 hr1 hback hlz hlx hl' hT hTx hTc
 repeat (first | refine yy ?_ | refine yx fun _=> ?_ | (refine oc (hown _ _ hM03) ?_;rintro _ M4 L ⟨hM4,rfl,T,rfl,hT,hTx,hTc⟩))
 have hM04:=Mem.le_trans hM03 hM4
 have hr2:=fun L=>htr M4 L T s hM04 hT hTx hTc (by omega)
 generalize readA A.xs s=r at*
 repeat (first | refine yy ?_ | refine yx fun _=> ?_ | (refine oc (hr2 _) ?_;rintro _ M5 L ⟨hM5,rfl,q1,hq1,hqa1,_,rfl⟩))
 have hM05:=Mem.le_trans hM04 hM5
 repeat (first | refine yy ?_ | refine yx fun _=> ?_ | (refine oc (hrr _ _ hM05) ?_;rintro _ M6 L ⟨hM6,rfl,q2,hq2,hqa2,_,rfl⟩))
 have hM06:=Mem.le_trans hM05 hM6
 have hq16:=hq1.le hM6
 repeat (first | refine zc ?_ | refine vq ?_ | refine qc (refSame_ok _ _ q1 q2 hq16 hq2 true ⟨fun _=>hqa1.trans hqa2.symm,fun _=>rfl⟩) ?_)
 refine runL_as 92 (.bool false) rfl rfl ?_
 iterate 5 (first | refine yk ?_ | fail)
 refine runL_as 97 (.bool false) rfl (congrArg Value.bool (hni _)) ?_
 repeat (first | refine yk ?_ | refine yx fun _=> ?_)
 refine run_cond (t:=false) (congrArg (fun z=>some (Value.bool z)) (hni _)) (fun h=>by cases h) (fun _=> ?_)
 repeat (first | refine yy ?_ | refine yx fun _=> ?_)
 refine run_cond (t:=r.2.2 !=0) rfl (fun h=> ?_) (fun h=> ?_)
 ·repeat (first | refine yy ?_ | refine yx fun _=> ?_ | (refine oc (alive_ok _ _ (hG.le hM06)) ?_;rintro _ M7 L ⟨hM7,rfl,rfl⟩))
  exact run_ret hC (rs:= [.tmp 6]) rfl (resT rfl resN) (fun _ h=>h) ⟨Mem.le_trans hM06 hM7,rfl,rfl⟩
 have ht2:=fun L=>htl M6 L A q1 _ hM06 (hA.le hM06) rfl hca hq16 hqa1 hpay
 rw [hrd (by simpa using h)] at ht2
 repeat (first | refine zc ?_ | refine vq ?_ | refine qc (ht2 _) ?_)
 refine runL_as 113 (.bool true) rfl rfl ?_
 repeat (first | refine yk ?_ | refine yx fun _=> ?_)
 refine runL_as 118 (.bool true) rfl (congrArg Value.bool (by rw [bytes_beq];simp)) ?_
 refine ok (alive_ok _ _ (hG.le hM06)) ?_
 rintro _ M8 L ⟨hM8,rfl,rfl⟩
 repeat (first | refine yk ?_ | refine yx fun _=> ?_)
 exact run_ret hC (rs:= [.tmp 6]) rfl (resT rfl resN) (fun _ h=>h) ⟨Mem.le_trans hM06 hM8,rfl,rfl⟩
open Go.Chi Go.Lib Go.RowKit
theorem uInt:Tryz.prog.underlying 3=some (.int .i64):=und_ok tok (t:=3) rfl
theorem uBool:Tryz.prog.underlying 4=some .bool:=und_ok tok (t:=4) rfl
theorem uU8:Tryz.prog.underlying 5=some (.int .u8):=und_ok tok (t:=5) rfl
theorem uStr:Tryz.prog.underlying 9=some .string:=und_ok tok (t:=9) rfl
section
variable {H:Type} {enc:TypeId×Value→H} {W:World} {cs:List Value}
theorem rd_st (h:RD enc Tryz.prog W 9 cs): ∃s:ByteArray,cs=stC s∧True:=by
 obtain ⟨b,rfl,_⟩:=h.string uStr
 exact ⟨b,rfl,trivial⟩
theorem rd_sstr (h:RD enc Tryz.prog W 22 cs): ∃s:SStr,cs= [s.v]∧s.Ok (memOf W)∧s.len≤s.cap:=by
 obtain ⟨a,len,cap,ls,rfl,hlc,_,hs,hel⟩:=h.slice (und_ok tok (t:=22) rfl) (size:=1) (by kernel_rfl) (by omega)
 obtain ⟨xs,rfl,_⟩:=list_of (f:=stC) (Q:=fun _=>True) fun c hc=>rd_st (hel c hc)
 exact ⟨⟨a,len,cap,xs⟩,rfl,hs,hlc⟩
theorem varM_of {n:String} {g:Nat} {c:Array Value} (hg:Tryz.prog.globalNamed n=some g) (h:W.var? Tryz.prog n=some c):VarM (memOf W) g c.toList:=by
 unfold World.var? at h
 rw [hg,Option.bind_some] at h
 split at h
 ·rename_i c1 t1 f1 he
  cases h
  exact ⟨t1,f1,he⟩
 ·cases h
theorem g38_of (h:laidMet Tryz.prog [("math/bits.deBruijn32tab",Rows.laid_math_bits_deBruijn32tab),("math/bits.deBruijn64tab",Rows.laid_math_bits_deBruijn64tab),("internal/strconv.uint64pow10",Rows.laid_internal_strconv_uint64pow10),("strconv.ErrRange",Rows.laid_strconv_ErrRange),("strconv.ErrSyntax",Rows.laid_strconv_ErrSyntax)] W):G38 (memOf W):=by
 obtain ⟨ps,⟨g0,t0,c0,f0,p0,q0,hg0,ht0,hv0,hd0,⟨g1,t1,c1,f1,p1,q1,hg1,ht1,hv1,hd1,⟨g2,t2,c2,f2,p2,q2,hg2,ht2,hv2,hd2,⟨g3,t3,c3,f3,p3,q3,hg3,ht3,hv3,hd3,⟨g4,t4,c4,f4,p4,q4,hg4,ht4,hv4,hd4,_,_⟩,_⟩,_⟩,_⟩,_⟩,_⟩:=h
 obtain rfl:=Option.some.inj (gPow.symm.trans hg2)
 obtain rfl:=Option.some.inj (gRng.symm.trans hg3)
 obtain rfl:=Option.some.inj (gSyn.symm.trans hg4)
 obtain rfl:=Option.some.inj ((show (Tryz.prog.globals[(1:Nat)]?).map (·.type)=some 213 by kernel_rfl).symm.trans ht2)
 obtain rfl:=Option.some.inj ((show (Tryz.prog.globals[(3:Nat)]?).map (·.type)=some 102 by kernel_rfl).symm.trans ht3)
 obtain rfl:=Option.some.inj ((show (Tryz.prog.globals[(2:Nat)]?).map (·.type)=some 102 by kernel_rfl).symm.trans ht4)
 obtain ⟨ms,hms⟩:=uErr
 obtain ⟨_,u3,v3,e3,_⟩:=iface_of_trod hms hd3
 obtain ⟨_,u4,v4,e4,_⟩:=iface_of_trod hms hd4
 have e2:=cells_of_tab (zs:=pow10Tab) (k:= .u64) (e:=171) (n:=20) (by kernel_rfl) (by kernel_rfl) (by kernel_rfl) (by kernel_rfl) hd2
 have m2:=varM_of hg2 hv2
 have m3:=varM_of hg3 hv3
 have m4:=varM_of hg4 hv4
 rw [e2] at m2
 rw [e3] at m3
 rw [e4] at m4
 exact ⟨m2,⟨u4,v4,m4⟩,⟨u3,v3,m3⟩⟩
end
noncomputable def low38:Nat:=(World.holding Tryz.prog default ⟨#[],#[],[]⟩).heap.size
def putC (cs:List Value):Obj→Obj
 | .cells _ t frozen=> .cells ⟨cs⟩ t frozen
 | o=>o
noncomputable def laidW (os:Os):World:=
 let w0:=World.holding Tryz.prog os ⟨#[.cells #[.string ⟨#[118,97,108,117,101,32,111,117,116,32,111,102,32,114,97,110,103,101]⟩] 259,.cells #[.string ⟨#[105,110,118,97,108,105,100,32,115,121,110,116,97,120]⟩] 259],#[],[]⟩
 { w0 with heap:=((((w0.heap.modify 4 (putC ([0,1,28,2,29,14,24,3,30,22,20,15,25,17,4,8,31,27,13,23,21,19,16,7,26,12,18,6,11,5,10,9].map (Value.int .u8)))).modify 5 (putC ([0,1,56,2,57,49,28,3,61,58,42,50,38,29,17,4,62,47,59,36,45,43,51,22,53,39,33,30,24,18,12,5,63,55,48,27,60,41,37,16,46,35,44,21,52,32,23,11,54,26,40,15,34,20,31,10,25,14,19,9,13,8,7,6].map (Value.int .u8)))).modify 1 (putC ([1,10,100,1000,10000,100000,1000000,10000000,100000000,1000000000,10000000000,100000000000,1000000000000,10000000000000,100000000000000,1000000000000000,10000000000000000,100000000000000000,1000000000000000000,10000000000000000000].map (Value.int .u64)))).modify 3 (putC [.iface 257 (.pointer (some ⟨low38,0,none⟩))])).modify 2 (putC [.iface 257 (.pointer (some ⟨low38+1,0,none⟩))]) }
theorem laidW_met (os:Os) (args:Array Value):laidMet Tryz.prog Rows.textLooksRow.laid ((laidW os).forCall (fun _ _=>0) ⟨#[],args,[]⟩).memory:=
 laidMet_of_run' 8 (by kernel_rfl) (by kernel_rfl)
theorem own:ownKnob Tryz.prog.godebug=none:=by kernel_rfl
theorem laid:laidOutB Tryz.prog=true:=by kernel_rfl
section
variable {H:Type} {enc:TypeId×Value→H} {W:World} {cs:List Value}
theorem rd_tx (h:RD enc Tryz.prog W 25 cs): ∃t:Tx,cs=txC t:=by
 obtain ⟨_,_,rfl,h0,_,_,rfl,h1,_,_,rfl,h2,rfl⟩:=h.struct (und_ok tok (t:=25) rfl) (by kernel_rfl)
 obtain ⟨a,rfl,_⟩:=h0.int uInt
 obtain ⟨b,rfl,_⟩:=h1.int uInt
 obtain ⟨c,rfl,_⟩:=h2.int uInt
 exact ⟨⟨a,b,c⟩,rfl⟩
theorem rd_mb (h:RD enc Tryz.prog W 57 cs): ∃m:Mb,cs=mbC m∧True:=by
 obtain ⟨_,_,rfl,h0,_,_,rfl,h1,rfl⟩:=h.struct (und_ok tok (t:=57) rfl) (by kernel_rfl)
 obtain ⟨a,rfl,_⟩:=h0.int uInt
 obtain ⟨b,rfl,_⟩:=h1.string uStr
 exact ⟨⟨a,b⟩,rfl,trivial⟩
theorem rd_smb (h:RD enc Tryz.prog W 23 cs): ∃s:SMb,cs= [s.v]∧s.Ok (memOf W):=by
 obtain ⟨a,len,cap,ls,rfl,_,_,hs,hel⟩:=h.slice (und_ok tok (t:=23) rfl) (size:=2) (by kernel_rfl) (by omega)
 obtain ⟨xs,rfl,_⟩:=list_of (f:=mbC) (Q:=fun _=>True) fun c hc=>rd_mb (hel c hc)
 exact ⟨⟨a,len,cap,xs⟩,rfl,hs⟩
theorem rd_in1 (h:RD enc Tryz.prog W 3 cs): ∃s:Int,cs=inC s∧True:=by
 obtain ⟨b,rfl,_⟩:=h.int uInt
 exact ⟨b,rfl,trivial⟩
theorem rd_in (h:RD enc Tryz.prog W 58 cs): ∃s:SIn,cs= [s.v]∧SlM (memOf W) 1 s.a s.len (s.xs.map inC):=by
 obtain ⟨a,len,cap,ls,rfl,_,_,hs,hel⟩:=h.slice (und_ok tok (t:=58) rfl) (size:=1) (by kernel_rfl) (by omega)
 obtain ⟨xs,rfl,_⟩:=list_of (f:=inC) (Q:=fun _=>True) fun c hc=>rd_in1 (hel c hc)
 exact ⟨⟨a,len,cap,xs⟩,rfl,hs⟩
theorem rd_sr (h:RD enc Tryz.prog W 60 cs): ∃y:Sr,cs=srC y∧SlM (memOf W) 1 y.list.a y.list.len (y.list.xs.map inC):=by
 obtain ⟨_,_,rfl,h0,_,_,rfl,h1,_,_,rfl,h2,_,_,rfl,h3,_,_,rfl,h4,_,_,rfl,h5,_,_,rfl,h6,rfl⟩:=h.struct (und_ok tok (t:=60) rfl) (by kernel_rfl)
 obtain ⟨d,rfl,_⟩:=h0.int uU8
 obtain ⟨a,rfl,_⟩:=h1.int uInt
 obtain ⟨b,rfl,_⟩:=h2.int uInt
 obtain ⟨c,rfl,_⟩:=h3.int uInt
 obtain ⟨n,rfl,_⟩:=h4.int uInt
 obtain ⟨t,rfl,_⟩:=h5.string uStr
 obtain ⟨l,rfl,hl⟩:=rd_in h6
 exact ⟨⟨d,a,b,c,n,t,l⟩,rfl,hl⟩
theorem rd_ssr (h:RD enc Tryz.prog W 26 cs): ∃s:SSr,cs= [s.v]∧SlM (memOf W) 7 s.a s.len (s.xs.map srC)∧ ∀y∈s.xs,SlM (memOf W) 1 y.list.a y.list.len (y.list.xs.map inC):=by
 obtain ⟨a,len,cap,ls,rfl,_,_,hs,hel⟩:=h.slice (und_ok tok (t:=26) rfl) (size:=7) (by kernel_rfl) (by omega)
 obtain ⟨xs,rfl,hq⟩:=list_of (f:=srC) (Q:=fun y:Sr=>SlM (memOf W) 1 y.list.a y.list.len (y.list.xs.map inC)) fun c hc=>rd_sr (hel c hc)
 exact ⟨⟨a,len,cap,xs⟩,rfl,hs,hq⟩
theorem rd_ax (h:RD enc Tryz.prog W 28 cs): ∃x:Ax,cs=axC x∧AxIn (memOf W) x:=by
 obtain ⟨_,_,rfl,h0,_,_,rfl,h1,_,_,rfl,h2,_,_,rfl,h3,_,_,rfl,h4,_,_,rfl,h5,_,_,rfl,h6,_,_,rfl,h7,rfl⟩:=h.struct (und_ok tok (t:=28) rfl) (by kernel_rfl)
 obtain ⟨k,rfl,_⟩:=h0.int uU8
 obtain ⟨o,rfl,_⟩:=h1.int uInt
 obtain ⟨au,rfl,_⟩:=h2.int uInt
 obtain ⟨n,rfl,_⟩:=h3.int uInt
 obtain ⟨g,rfl,hg⟩:=rd_smb h4
 obtain ⟨t,rfl⟩:=rd_tx h5
 obtain ⟨y,rfl⟩:=h6.bool uBool
 obtain ⟨s,rfl,hs,hy⟩:=rd_ssr h7
 exact ⟨⟨k,o,au,n,g,t,y,s⟩,rfl,⟨hg,hs,hy⟩⟩
end
theorem rd_sax {H:Type} {enc:TypeId×Value→H} {W:World} {cs:List Value} (h:RD enc Tryz.prog W 34 cs): ∃s:SAx,cs= [s.v]∧SaIn (memOf W) s:=by
 obtain ⟨a,len,cap,ls,rfl,_,_,hs,hel⟩:=h.slice (und_ok tok (t:=34) rfl) (size:=10) (by kernel_rfl) (by omega)
 obtain ⟨xs,rfl,hq⟩:=list_of (f:=axC) (Q:=fun x:Ax=>AxIn (memOf W) x) fun c hc=>rd_ax (hel c hc)
 exact ⟨⟨a,len,cap,xs⟩,rfl,⟨hs,hq⟩⟩
end Go.Proofs.YtladcmfbkiogbaaGreatDoor
