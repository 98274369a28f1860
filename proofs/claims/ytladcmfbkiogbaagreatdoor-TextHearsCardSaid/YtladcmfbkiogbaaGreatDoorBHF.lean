import Derived.Test.YtladcmfbkiogbaaGreatDoorBHE
import Derived.Test.YtladcmfbkiogbaaGreatDoorBHB
import Derived.Test.YtladcmfbkiogbaaGreatDoorBHD
import Derived.Test.YtladcmfbkiogbaaGreatDoorBHA
import Derived.Test.YtladcmfbkiogbaaGreatDoorBHC
import Derived.KernelRfl
import Derived.Test.YtladcmfbkiogbaaGreatDoorRows
import Derived.ChangeMaps5
import Derived.Lib.LaidTab
import Derived.LaidLaws
set_option maxHeartbeats 32000000
set_option linter.all false
namespace Go.Proofs.YtladcmfbkiogbaaGreatDoor
open Go.Chi Go.Lib
set_option maxRecDepth 10000
theorem more_split: ∀(k:Nat) (s:ByteArray) (x:List Sp×ByteArray),moreO k s=some x→ ∃u,stepsW false x.1=some u∧s=u++x.2
 | 0,s,x,h=>by cases h;exact ⟨⟨#[]⟩,rfl,(nil_app _).symm⟩
 | k+1,s,x,h=>by
   rw [moreO] at h
   split at h
   ·rename_i hp
    obtain ⟨y,hy,h⟩:=Option.bind_eq_some_iff.1 h
    obtain ⟨z,hz,h⟩:=Option.bind_eq_some_iff.1 h
    cases h
    obtain ⟨a,h1,h2⟩:=est_split hy
    obtain ⟨b,h3,h4⟩:=more_split k _ z hz
    refine ⟨(plusB++a)++b, ?_, ?_⟩
    ·show stepsW false (y.1::z.1)=_
     rw [stepsW,h1,Option.bind_some,h3,Option.bind_some];rfl
    ·show s=_++z.2
     rw [app_assoc,app_assoc,←h4,←h2];exact pre_split hp
   ·cases h;exact ⟨⟨#[]⟩,rfl,(nil_app _).symm⟩
theorem steps_split {s:ByteArray} {x:List Sp×ByteArray} (h:stepsO s=some x): ∃u,stepsV x.1=some u∧s=u++x.2:=by
 unfold stepsO at h
 split at h
 ·rename_i hn
  cases h
  exact ⟨wNothing,rfl,by rw [hn,app_nil]⟩
 ·obtain ⟨y,hy,h⟩:=Option.bind_eq_some_iff.1 h
  obtain ⟨z,hz,h⟩:=Option.bind_eq_some_iff.1 h
  cases h
  obtain ⟨a,h1,h2⟩:=est_split hy
  obtain ⟨b,h3,h4⟩:=more_split _ _ z hz
  refine ⟨a++b, ?_, ?_⟩
  ·show stepsV (y.1::z.1)=_
   rw [stepsV,if_neg (by simp),stepsW,h1,Option.bind_some,h3,Option.bind_some];rfl
  ·show s=_++z.2
   rw [app_assoc,←h4,←h2]
theorem gv_split {names:List ByteArray} : ∀(k:Nat) (f:Bool) (s:ByteArray) (x:List Mb×ByteArray),gvO names k (if f then colB else semB) s=some x→ ∃u,givesV names f x.1=some u∧s=u++x.2
 | 0,f,s,x,h=>by cases h;exact ⟨⟨#[]⟩,rfl,(nil_app _).symm⟩
 | k+1,f,s,x,h=>by
   rw [gvO] at h
   split at h
   ·cases h;exact ⟨⟨#[]⟩,rfl,(nil_app _).symm⟩
   obtain ⟨a,ha,h⟩:=Option.bind_eq_some_iff.1 h
   obtain ⟨b,hb,h⟩:=Option.bind_eq_some_iff.1 h
   obtain ⟨c,hc,h⟩:=Option.bind_eq_some_iff.1 h
   obtain ⟨d,hd,h⟩:=Option.bind_eq_some_iff.1 h
   obtain ⟨e,he,h⟩:=Option.bind_eq_some_iff.1 h
   cases h
   have h1:=hear_split ha
   obtain ⟨o,h2,h3⟩:=org_split hb
   have h4:=hear_split hc
   obtain ⟨h5,_,h6⟩:=term_split hd
   obtain ⟨v,h7,h8⟩:=gv_split k false _ e he
   refine ⟨(((if f=true then colB else semB)++o)++(sp1++(lineE d.1).1))++v, ?_, ?_⟩
   ·show givesV names f (⟨(b.1:Int),d.1⟩::e.1)=_
    rw [givesV]
    show (orgV names ((b.1:Int)).toNat).bind _=_
    rw [Int.toNat_natCast,orgV,h2,Option.bind_some]
    show (termV d.1).bind _=_
    rw [h5,Option.bind_some,h7,Option.bind_some]
   ·show s=_++e.2
    simp only [app_assoc]
    rw [←h8,←h6,←h4,←h3];exact h1
theorem beg_split {names:List ByteArray} {o:Int} {s:ByteArray} {x:Aa×ByteArray} (h:begO names o s=some x): ∃u,verbV names x.1=some u∧sp1++(wBegins++s)=u++x.2∧x.1.do_≠4∧x.1.org=o:=by
 unfold begO at h
 split at h
 ·rename_i hs
  cases h
  exact ⟨vAnew,rfl,by rw [hs];rfl,by show (8:Int)≠4;decide,rfl⟩
 ·obtain ⟨a,ha,h⟩:=Option.bind_eq_some_iff.1 h
  obtain ⟨b,hb,h⟩:=Option.bind_eq_some_iff.1 h
  obtain ⟨c,hc,h⟩:=Option.bind_eq_some_iff.1 h
  cases h
  have h1:=hear_split ha
  obtain ⟨p,h2,h3⟩:=org_split hb
  obtain ⟨v,h4,h5⟩:=gv_split _ true _ c hc
  refine ⟨(vBegins++p)++v, ?_, ?_,by show (1:Int)≠4;decide,rfl⟩
  ·show begV names ⟨1,o,(b.1:Int),0,c.1,tz,false,[]⟩=_
   rw [begV]
   show (orgV names ((b.1:Int)).toNat).bind _=_
   rw [Int.toNat_natCast,orgV,h2,Option.bind_some]
   show aft _ (givesV names true c.1)=_
   rw [h4];rfl
  ·show _=_++c.2
   rw [show vBegins=sp1++(wBegins++wFor)from rfl]
   simp only [app_assoc]
   rw [←h5,←h3,←h1]
theorem says_split {names:List ByteArray} {o:Int} {s:ByteArray} {x:Aa×ByteArray} (h:saysO names o s=some x): ∃u,verbV names x.1=some u∧sp1++(wSays++s)=u++x.2∧x.1.do_≠4∧x.1.org=o:=by
 unfold saysO at h
 obtain ⟨a,ha,h⟩:=Option.bind_eq_some_iff.1 h
 obtain ⟨b,hb,h⟩:=Option.bind_eq_some_iff.1 h
 obtain ⟨c,hc,h⟩:=Option.bind_eq_some_iff.1 h
 cases h
 have h1:=hear_split hb
 obtain ⟨u,h2,h3⟩:=txn_split hc
 have h0:s=(if a.1=true then wYes else wNo)++a.2:=by
  unfold yesO at ha
  split at ha
  ·rename_i hp;cases ha;exact pre_split hp
  ·obtain ⟨z,hz,ha⟩:=Option.bind_eq_some_iff.1 ha
   cases ha;exact hear_split hz
 refine ⟨(if a.1=true then vYes else vNo)++u, ?_, ?_,by show (2:Int)≠4;decide,rfl⟩
 ·show aft (if a.1=true then vYes else vNo) (txnV names c.1)=_
  rw [h2];rfl
 ·show _=_++c.2
  rw [app_assoc,←h3,h0,h1]
  cases a.1
  ·show sp1++(wSays++(wNo++(wTo++b.2)))=vNo++b.2
   rw [show vNo=sp1++(wSays++(wNo++wTo))from rfl];simp only [app_assoc]
  ·show sp1++(wSays++(wYes++(wTo++b.2)))=vYes++b.2
   rw [show vYes=sp1++(wSays++(wYes++wTo))from rfl];simp only [app_assoc]
theorem verb_split {names:List ByteArray} {o:Int} {w s:ByteArray} {x:Aa×ByteArray} (h:verbO names o w s=some x): ∃u,verbV names x.1=some u∧sp1++(w++s)=u++x.2∧x.1.do_≠4∧x.1.org=o:=by
 unfold verbO at h
 split at h
 ·rename_i hw;rw [hw];exact beg_split h
 split at h
 ·rename_i hw;rw [hw];exact says_split h
 split at h
 ·rename_i hw;rw [hw];cases h
  exact ⟨vTicks,rfl,by rw [show vTicks=sp1++wTicks from rfl,app_assoc],by show (3:Int)≠4;decide,rfl⟩
 split at h
 ·rename_i hw;rw [hw]
  unfold stpO at h
  obtain ⟨a,ha,h⟩:=Option.bind_eq_some_iff.1 h
  obtain ⟨b,hb,h⟩:=Option.bind_eq_some_iff.1 h
  cases h
  obtain ⟨u,h1,h2⟩:=steps_split hb
  refine ⟨vGets++u, ?_, ?_,by show (5:Int)≠4;decide,rfl⟩
  ·show aft vGets (stepsV b.1)=_
   rw [h1];rfl
  ·show _=_++b.2
   rw [show vGets=sp1++(wGets++sp1)from rfl,hear_split ha];simp only [app_assoc];rw [←h2]
 split at h
 ·rename_i hw;rw [hw]
  unfold stpO at h
  obtain ⟨a,ha,h⟩:=Option.bind_eq_some_iff.1 h
  obtain ⟨b,hb,h⟩:=Option.bind_eq_some_iff.1 h
  cases h
  obtain ⟨u,h1,h2⟩:=steps_split hb
  refine ⟨vJudges++u, ?_, ?_,by show (10:Int)≠4;decide,rfl⟩
  ·show aft vJudges (stepsV b.1)=_
   rw [h1];rfl
  ·show _=_++b.2
   rw [show vJudges=sp1++(wJudges++sp1)from rfl,hear_split ha];simp only [app_assoc];rw [←h2]
 split at h
 ·rename_i hw;rw [hw]
  unfold nmO at h
  obtain ⟨a,ha,h⟩:=Option.bind_eq_some_iff.1 h
  obtain ⟨b,hb,h⟩:=Option.bind_eq_some_iff.1 h
  cases h
  obtain ⟨h1,_⟩:=num_split hb
  refine ⟨vStops++dgB (b.1:Int),rfl, ?_,by show (6:Int)≠4;decide,rfl⟩
  show _=_++b.2
  rw [show vStops=sp1++(wStops++wBehind)from rfl,hear_split ha];simp only [app_assoc];rw [←h1]
 split at h
 ·rename_i hw;rw [hw]
  unfold nmO at h
  obtain ⟨a,ha,h⟩:=Option.bind_eq_some_iff.1 h
  obtain ⟨b,hb,h⟩:=Option.bind_eq_some_iff.1 h
  cases h
  obtain ⟨h1,_⟩:=num_split hb
  refine ⟨vCrash++dgB (b.1:Int),rfl, ?_,by show (7:Int)≠4;decide,rfl⟩
  show _=_++b.2
  rw [show vCrash=sp1++(wCrashes++wKeeps)from rfl,hear_split ha];simp only [app_assoc];rw [←h1]
 split at h
 ·rename_i hw;rw [hw]
  unfold shwO at h
  obtain ⟨a,ha,h⟩:=Option.bind_eq_some_iff.1 h
  obtain ⟨b,hb,h⟩:=Option.bind_eq_some_iff.1 h
  cases h
  obtain ⟨u,h1,h2⟩:=txn_split hb
  refine ⟨vShows++u, ?_, ?_,by show (9:Int)≠4;decide,rfl⟩
  ·show aft vShows (txnV names b.1)=_
   rw [h1];rfl
  ·show _=_++b.2
   rw [show vShows=sp1++(wShows++sp1)from rfl,hear_split ha];simp only [app_assoc];rw [←h2]
 ·cases h
theorem act_split {names:List ByteArray} {s:ByteArray} {x:Aa×ByteArray} (h:actO names s=some x): ∃u,lineV names x.1=some u∧s=u++x.2:=by
 unfold actO at h
 split at h
 ·rename_i hp
  have hp:preB s wPost=true:=by
   unfold postQ at hp
   rw [Bool.and_eq_true] at hp;exact hp.1
  have h0:=pre_split hp
  unfold postO at h
  obtain ⟨a,ha,h⟩:=Option.bind_eq_some_iff.1 h
  obtain ⟨b,hb,h⟩:=Option.bind_eq_some_iff.1 h
  cases h
  obtain ⟨h1,_⟩:=num_split ha
  have h2:=hear_split hb
  refine ⟨(wPost++dgB (a.1:Int))++wComes,rfl, ?_⟩
  show s=_++b.2
  rw [app_assoc,app_assoc,←h2,←h1];exact h0
 ·obtain ⟨a,ha,h⟩:=Option.bind_eq_some_iff.1 h
  obtain ⟨b,hb,h⟩:=Option.bind_eq_some_iff.1 h
  obtain ⟨o,h1,h2⟩:=org_split ha
  have h3:=hear_split hb
  obtain ⟨u,h4,h5,h6,h7⟩:=verb_split h
  have hw:=word_split b.2 sgSp
  refine ⟨o++u, ?_, ?_⟩
  ·rw [lineV,if_neg h6,h7]
   show (orgV names ((a.1:Int)).toNat).bind _=_
   rw [Int.toNat_natCast,orgV,h1,Option.bind_some,h4];rfl
  ·rw [app_assoc,←h5,←hw,←h3];exact h2
theorem parse_line {names:List ByteArray} {s:ByteArray} (h:(parseA names s).2=0):lineA names (parseA names s).1=(s,0):=by
 unfold parseA at h⊢
 split at h
 rotate_left
 ·cases h
 rename_i hr
 rw [if_pos hr]
 cases hp:parseP names s with
 | none=>rw [hp] at h;cases h
 | some a=>
   show lineA names a=(s,0)
   unfold parseP at hp
   obtain ⟨x,hx,hp⟩:=Option.bind_eq_some_iff.1 hp
   split at hp
   rotate_left
   ·cases hp
   rename_i hc
   cases hp
   obtain ⟨u,h1,h2⟩:=act_split hx
   rw [hc.1,app_nil] at h2
   rw [lineA,if_pos ⟨hr,hc.2⟩,h1,←h2]
theorem gvO_pay {names:List ByteArray} : ∀(k:Nat) {sg s:ByteArray} {x:List Mb×ByteArray},gvO names k sg s=some x→ ∀m∈x.1,m.digest.size≤16384
 | 0,sg,s,x,h=>by rw [gvO] at h;cases h;intro m hm;cases hm
 | k+1,sg,s,x,h=>by
   rw [gvO] at h
   split at h
   ·cases h;intro m hm;cases hm
   obtain ⟨y,_,h⟩:=Option.bind_eq_some_iff.1 h
   obtain ⟨z,_,h⟩:=Option.bind_eq_some_iff.1 h
   obtain ⟨u,_,h⟩:=Option.bind_eq_some_iff.1 h
   obtain ⟨t,ht,h⟩:=Option.bind_eq_some_iff.1 h
   obtain ⟨l,hl,h⟩:=Option.bind_eq_some_iff.1 h
   cases h
   intro m hm
   rcases List.mem_cons.1 hm with rfl | hm
   ·exact (termO_sz ht).1
   ·exact gvO_pay k hl m hm
theorem verbO_pay {names:List ByteArray} {o:Int} {w s:ByteArray} {x:Aa×ByteArray} (h:verbO names o w s=some x): ∀m∈x.1.gives,m.digest.size≤16384:=by
 have hn: ∀ {a:Aa},a.gives= []→ ∀m∈a.gives,m.digest.size≤16384:=fun e m hm=>by rw [e] at hm;cases hm
 unfold verbO at h
 split at h
 ·unfold begO at h
  split at h
  ·cases h;exact hn rfl
  obtain ⟨y,_,h⟩:=Option.bind_eq_some_iff.1 h
  obtain ⟨z,_,h⟩:=Option.bind_eq_some_iff.1 h
  obtain ⟨g,hg,h⟩:=Option.bind_eq_some_iff.1 h
  cases h
  exact gvO_pay _ hg
 split at h
 ·unfold saysO at h
  obtain ⟨y,_,h⟩:=Option.bind_eq_some_iff.1 h
  obtain ⟨z,_,h⟩:=Option.bind_eq_some_iff.1 h
  obtain ⟨g,_,h⟩:=Option.bind_eq_some_iff.1 h
  cases h;exact hn rfl
 split at h
 ·cases h;exact hn rfl
 split at h
 ·unfold stpO at h
  obtain ⟨y,_,h⟩:=Option.bind_eq_some_iff.1 h
  obtain ⟨z,_,h⟩:=Option.bind_eq_some_iff.1 h
  cases h;exact hn rfl
 split at h
 ·unfold stpO at h
  obtain ⟨y,_,h⟩:=Option.bind_eq_some_iff.1 h
  obtain ⟨z,_,h⟩:=Option.bind_eq_some_iff.1 h
  cases h;exact hn rfl
 split at h
 ·unfold nmO at h
  obtain ⟨y,_,h⟩:=Option.bind_eq_some_iff.1 h
  obtain ⟨z,_,h⟩:=Option.bind_eq_some_iff.1 h
  cases h;exact hn rfl
 split at h
 ·unfold nmO at h
  obtain ⟨y,_,h⟩:=Option.bind_eq_some_iff.1 h
  obtain ⟨z,_,h⟩:=Option.bind_eq_some_iff.1 h
  cases h;exact hn rfl
 split at h
 ·unfold shwO at h
  obtain ⟨y,_,h⟩:=Option.bind_eq_some_iff.1 h
  obtain ⟨z,_,h⟩:=Option.bind_eq_some_iff.1 h
  cases h;exact hn rfl
 ·cases h
theorem actO_pay {names:List ByteArray} {s:ByteArray} {x:Aa×ByteArray} (h:actO names s=some x): ∀m∈x.1.gives,m.digest.size≤16384:=by
 unfold actO at h
 split at h
 ·unfold postO at h
  obtain ⟨y,_,h⟩:=Option.bind_eq_some_iff.1 h
  obtain ⟨z,_,h⟩:=Option.bind_eq_some_iff.1 h
  cases h
  intro m hm;cases hm
 ·obtain ⟨y,_,h⟩:=Option.bind_eq_some_iff.1 h
  obtain ⟨z,_,h⟩:=Option.bind_eq_some_iff.1 h
  exact verbO_pay h
theorem parse_pay {names:List ByteArray} {s:ByteArray} : ∀m∈(parseA names s).1.gives,m.digest.size≤16384:=by
 unfold parseA
 split
 rotate_left
 ·intro m hm;cases hm
 cases hp:parseP names s with
 | none=>intro m hm;cases hm
 | some a=>
   unfold parseP at hp
   obtain ⟨x,hx,hp⟩:=Option.bind_eq_some_iff.1 hp
   split at hp
   ·cases hp;exact actO_pay hx
   ·cases hp
theorem parse_doc {names:List ByteArray} {s:ByteArray} {b:Aa} (hn:rollB names=true) (hb:actR names s b) (hp: ∀m∈b.gives,m.digest.size<1099511627776):parseA names s=if (lineA names b).2=0∧(lineA names b).1=s then (b,0)else (zA,7):=by
 split
 ·rename_i h
  obtain ⟨h1,h2,h3⟩:=line_some h.1
  have h4: ∀m∈b.gives,m.digest.size<1000000:=fun m hm=>by
   have hg:GvP m:=by
    cases h2 with
    | begin_ _ _ _ _ _ _ q=>exact q m hm
    | _=>cases hm
   have hmay:mayB m.digest=true:=by rw [mayB,decide_eq_true_eq];exact hg.2
   have h5:=hp m hm
   have:=((mayB_iff (by omega)).1 hmay).2
   omega
  have:=line_back_ h.1 h4
  rw [h.2] at this
  exact this
 ·rename_i h
  have hpp:=parse_pay (names:=names) (s:=s)
  have hpl:=parse_line (names:=names) (s:=s)
  unfold parseA at hpp hpl⊢
  rw [if_pos hn] at hpp hpl⊢
  cases hq:parseP names s with
  | none=>rfl
  | some a=>
    rw [hq] at hpp hpl
    have h1:lineA names a=(s,0):=hpl rfl
    have hpp: ∀m∈a.gives,m.digest.size≤16384:=hpp
    have h2:rollB names=true∧AcP a∧MayL names.length a:=Classical.byContradiction fun hc=>by
     rw [(line_doc names a).2 hc] at h1
     cases h1
    have h3:=(line_doc names a).1 h2
    rw [h1] at h3
    have h4:s=lineT names a:=congrArg Prod.fst h3
    have e:b=a:=act_read hn h2.2.1 h2.2.2 (fun m hm=>by have:=hpp m hm;omega) (by rw [←h4];exact hb)
    rw [e,h1] at h
    exact absurd ⟨rfl,rfl⟩ h
open Go.Chi
section
variable {C:Cx} {n:Nat} {k:List Item} {ds:List Deferred} {σ:Env} {δ:Den} {M:Mem} {L:HL} {ops:Array Oper} {D X:List Nat} {d:Nat} {op:Op} {ty:TypeId} {pos:String} {aft:Array Edge} {v:Value} {f:FuncId} {args:Array Operand} {tys:Array TypeId} {vs:List Value} {K:Value→Mem→HL→Prop} {qs:List Nat}
theorem qqx (i:Nat) (h:PR Tryz.prog C n ops k ds (i::D) X ((d,v)::σ) δ M L) (ho:ops[i]? =some ⟨some d,op,ty,pos,aft,none⟩:=by exact rfl) (hst:Qt Tryz.prog C.b.roundOf ⟨some d,op,ty,pos,aft,none⟩ σ δ [] M L v:=by first | refine qt_pev tok rfl | refine ql tok rfl | refine qt_indexN tok rfl rfl rfl rfl (fun hy=>by first | assumption | omega | (have h0:=hy.1;simp at h0;omega)) | refine qt_index tok rfl rfl rfl rfl (fun _=>by decide) | refine qt_ldM tok rfl (by first | assumption | exact Cells.le (by assumption) (by assumption)) rfl | refine qt_ldM0 tok rfl (by first | assumption | exact Cells.le (by assumption) (by assumption)) rfl | refine qt_strIndex tok rfl rfl rfl (fun _=>by assumption) | refine qt_strIndex (n:=0) tok rfl rfl rfl (fun _=>by assumption) | refine qt_strLo tok rfl rfl rfl (fun hy=>by first | assumption | omega | (have h0:=hy.1;simp at h0;omega)) | refine qt_strHi tok rfl rfl rfl (fun hy=>by first | assumption | omega | (have h0:=hy.1;simp at h0;omega)) | refine qt_strMid tok rfl rfl rfl rfl (fun hy=>by first | assumption | omega | (have h0:=hy.1;simp at h0;omega)) | refine qt_concat rfl rfl (by first | assumption | omega | (simp only [app_size] at*;omega)) | refine qt_shr rfl rfl (fun _=>by decide) | refine qt_makeIfaceC tok rfl rfl rfl | refine qt_assertC tok rfl rfl rfl | refine qt_assertCk tok rfl rfl rfl) (hchk:chkQ ops D i=true:=by decide+kernel) (hd:Nat.blt d n=true:=by exact rfl) (hn:lkd δ d=none:=by exact rfl) (hu:unNamed δ d=true:=by exact rfl):PR Tryz.prog C n ops k ds D X σ δ M L:=pr_q i hchk ho hst hd hn hu h
theorem qqc (i:Nat) (ht:TrQ Tryz.prog f vs M L v) (h:PR Tryz.prog C n ops k ds (i::D) X ((d,v)::σ) δ M L) (ho:ops[i]? =some ⟨some d,.call ⟨.value (.func f),args,tys⟩,ty,pos,aft,none⟩:=by exact rfl) (ha:evs σ δ [] args.toList=some vs:=by exact rfl) (hchk:chkQ ops D i=true:=by decide+kernel) (hd:Nat.blt d n=true:=by exact rfl) (hn:lkd δ d=none:=by exact rfl) (hu:unNamed δ d=true:=by exact rfl):PR Tryz.prog C n ops k ds D X σ δ M L:=pr_q i hchk ho (qt_callF ha fun _=>ht) hd hn hu h
end
theorem ppx {A B:Prop} (h:B) (hp:A:=by (repeat (first | exact trivial | refine And.intro (pend_q rfl rfl rfl (by first | refine qt_pev tok rfl | refine ql tok rfl | refine qt_indexN tok rfl rfl rfl rfl (fun hy=>by first | assumption | omega | (have h0:=hy.1;simp at h0;omega)) | refine qt_index tok rfl rfl rfl rfl (fun _=>by decide) | refine qt_ldM tok rfl (by first | assumption | exact Cells.le (by assumption) (by assumption)) rfl | refine qt_ldM0 tok rfl (by first | assumption | exact Cells.le (by assumption) (by assumption)) rfl | refine qt_strIndex tok rfl rfl rfl (fun _=>by assumption) | refine qt_strIndex (n:=0) tok rfl rfl rfl (fun _=>by assumption) | refine qt_strLo tok rfl rfl rfl (fun hy=>by first | assumption | omega | (have h0:=hy.1;simp at h0;omega)) | refine qt_strHi tok rfl rfl rfl (fun hy=>by first | assumption | omega | (have h0:=hy.1;simp at h0;omega)) | refine qt_strMid tok rfl rfl rfl rfl (fun hy=>by first | assumption | omega | (have h0:=hy.1;simp at h0;omega)) | refine qt_concat rfl rfl (by first | assumption | omega | (simp only [app_size] at*;omega)) | refine qt_shr rfl rfl (fun _=>by decide) | refine qt_makeIfaceC tok rfl rfl rfl | refine qt_assertC tok rfl rfl rfl | refine qt_assertCk tok rfl rfl rfl)) ?_))):A∧B:=⟨hp,h⟩
theorem rnum_ok (M:Mem) (L:HL) (hG:G38 M) (n:Int) (h0:0≤n) (h1:n≤9223372036854775807):TrQ Tryz.prog 38 [.int .i64 n] M L (.string (dgB n)):=by
 have hi:=fun L=>itoa_ok M L n.toNat (by omega) hG
 rw [Int.toNat_of_nonneg h0] at hi
 refine Tr.intro 5 Tryz.func38 rfl rfl Tryz.call38 rfl ?_;intro C hC hro
 repeat (first | refine yy ?_ | refine yx fun _=> ?_ | refine qc (hi _) ?_)
 exact run_ret hC (rs:= [.tmp 2]) rfl (resT rfl resN) (fun _ h=>h) ⟨rfl,rfl,rfl⟩
theorem rnums_ok (M:Mem) (L:HL) (hG:G38 M) (w:ByteArray) (p:SIn) (hp:InOk M p) (hall: ∀v∈p.xs,nmW v=true) (hw:w.size≤1000) (h32:p.xs.length≤32):TrQ Tryz.prog 118 [.string w,p.v] M L (.string (w++rwB p.xs)):=by
 have l1:=hp.len
 have n1:=hp.2
 obtain ⟨pa,pl,pc,px⟩:=p
 simp only [SIn.v] at*
 refine Tr.intro 21 Tryz.func118 rfl rfl Tryz.call118 rfl ?_;intro C hC hro
 repeat (first | refine yy ?_ | refine yx fun _=> ?_)
 refine run_loopN (fun j σ1 M1 L1=>j≤pl∧M=M1∧L=L1∧σ1= [(5,iv j),(0,.string (w++rwB (px.take j))),(1,.slice pa pl pc)]) pl [(5,iv 0),(0,.string (w++rwB (px.take 0))),(1,.slice pa pl pc)] ?_ ⟨Nat.zero_le _,rfl,rfl,rfl⟩ (fun j _ _ _ h=>h.1) ?_
 ·exact ⟨rfl,by rw [List.take_zero,rwB,app_nil];rfl,rfl,trivial⟩
 rintro j _ _ _ ⟨hj,rfl,rfl,rfl⟩ hnext
 repeat (first | refine yy ?_ | refine yx fun _=> ?_)
 refine run_cond (t:=decide ((j:Int)<(pl:Int))) rfl (fun h=> ?_) (fun h=> ?_)
 ·have hlt:j<pl:=by have:=of_decide_eq_true h;omega
  obtain ⟨b,off,m,rfl,hm,hc⟩:=SIn.at_ hp.1 hlt
  have hmw:=nIn (hall m (List.mem_of_getElem? hm))
  have z1:=rwB_sz (l:=px.take j) fun v hv=>hall v (List.mem_of_mem_take hv)
  have z2:(px.take j).length≤32:=by rw [List.length_take];omega
  have z3:=dgB_sz (n:=m) (by omega)
  have h1s:sp1.size=1:=rfl
  have hcc:(w++rwB (px.take j)).size+sp1.size<4611686018427387904:=by rw [app_size];omega
  have hcc2:((w++rwB (px.take j))++sp1).size+(dgB m).size<4611686018427387904:=by rw [app_size,app_size];omega
  repeat (first | refine yy ?_ | refine yx fun _=> ?_ | refine qc (rnum_ok _ _ hG m hmw.1 (by omega)) ?_ | refine vq ?_ (qt_concat rfl rfl hcc) | refine vq ?_ (qt_concat rfl rfl hcc2))
  refine run_sub' (hnext _ _ _ ⟨hlt,rfl,rfl,rfl⟩) ⟨lk_succ rfl (by omega), ?_,rfl,trivial⟩
  rw [take_snoc hm,rwB_app,show rwB [m]=sp1++dgB m from app_nil _,←app_assoc,←app_assoc]
  rfl
 ·have hge:j=pl:=by have:=of_decide_eq_false h;omega
  subst hge
  rw [List.take_of_length_le (by omega)]
  repeat (first | refine yy ?_ | refine yx fun _=> ?_)
  exact run_ret hC (rs:= [.tmp 4]) rfl (resT rfl resN) (fun _ h=>h) ⟨rfl,rfl,rfl⟩
theorem numsL_ok (M:Mem) (L:HL) (hG:G38 M) (w:ByteArray) (b n:Nat) (xs:List Int) (cs:List Value) (hcs:cs=xs.map (Value.int .i64)) (hm:(b,Obj.cells ⟨cs⟩ 3 (0,0))∈L) (hn:n=xs.length) (hall: ∀v∈xs,nmW v=true) (hw:w.size≤1000) (h32:xs.length≤32):
 TrQ Tryz.prog 118 [.string w,.slice (some ⟨b,0,none⟩) n n] M L (.string (w++rwB xs)):=
 TrQ.lend (fun w=>Tryz.call118 _ w) fun M' hm' hb=>by
  have hs:InOk M' ⟨some ⟨b,0,none⟩,n,n,xs⟩:=⟨by
   have:=SlM.ofBlk (size:=1) (ls:=xs.map inC) (hb _ _ hm) (by
    rw [hcs];clear hcs hm hb hn hall h32
    induction xs with
    | nil=>rfl
    | cons x l ih=>rw [List.map_cons,List.map_cons,List.flatten_cons,←ih];rfl) (fun c hc=>by obtain ⟨x,_,rfl⟩:=List.mem_map.1 hc;rfl)
   rw [List.length_map,←hn] at this
   exact this,by show n<1000000;omega⟩
  exact rnums_ok M' [] (hG.le hm') w _ hs hall hw h32
theorem rtxn_ok (M:Mem) (L:HL) (hG:G38 M) (S:SStr) (hS:StOk M S) (hz: ∀x∈S.xs,x.size<1000000) (t:Tx) (h0:0≤t.coord∧t.coord<(S.xs.length:Int)) (h1:0≤t.epoch∧t.epoch≤9223372036854775807) (h2:0≤t.seq∧t.seq≤9223372036854775807):TrQ Tryz.prog 40 [S.v,.agg ⟨txC t⟩] M L (.string (txnT S.xs t)):=by
 have hl:=hS.len
 have hd1:=dgB_sz h1.2
 have hd2:=dgB_sz h2.2
 obtain ⟨k,hk⟩:=Int.eq_ofNat_of_zero_le h0.1
 have hlt:k<S.len:=by omega
 obtain ⟨b,off,x,ha,hx,hc⟩:=SStr.at_ hS.1 hlt
 have hxz:=hz x (List.mem_of_getElem? hx)
 have hnt:nameT S.xs t.coord=x:=by rw [nameT,hk,Int.toNat_natCast,hx];rfl
 obtain ⟨sa,sn,sc,xs⟩:=S
 obtain ⟨tc,te,ts⟩:=t
 simp only at*
 subst ha hk
 have h1s:slB.size=1:=rfl
 have q1:x.size+slB.size<4611686018427387904:=by omega
 have q2:(x++slB).size+(dgB te).size<4611686018427387904:=by rw [app_size];omega
 have q3:((x++slB)++dgB te).size+slB.size<4611686018427387904:=by rw [app_size,app_size];omega
 have q4:(((x++slB)++dgB te)++slB).size+(dgB ts).size<4611686018427387904:=by rw [app_size,app_size,app_size];omega
 have he:txnT xs ⟨k,te,ts⟩=(((x++slB)++dgB te)++slB)++dgB ts:=by rw [txnT,hnt];simp only [app_assoc]
 rw [he]
 refine Tr.intro 20 Tryz.func40 rfl rfl Tryz.call40 rfl ?_;intro C hC hro
 repeat (first | refine yy ?_ | refine dd ?_ | refine yd ?_ | refine yx fun _=> ?_ | refine pc (rnum_ok _ _ hG te h1.1 h1.2) ?_ | refine pc (rnum_ok _ _ hG ts h2.1 h2.2) ?_ | refine pq rfl (qt_concat rfl rfl q1) ?_ | refine pq rfl (qt_concat rfl rfl q2) ?_ | refine pq rfl (qt_concat rfl rfl q3) ?_ | refine pq rfl (qt_concat rfl rfl q4) ?_)
 exact run_ret hC (rs:= [.tmp 4]) rfl (resT rfl resN) (fun _ h=>h.drop) ⟨rfl,rfl,rfl⟩
def bareR (x:Sr):Sr:=⟨x.do_,(bareN x.sp).a,(bareN x.sp).b,(bareN x.sp).c,(bareN x.sp).n,if x.do_=2 then x.text else ⟨#[]⟩,if x.do_=6 then x.list else ⟨none,0,0,[]⟩⟩
theorem bareR_sp (x:Sr):(bareR x).sp=bareP x.sp:=by
 unfold bareR bareP Sr.sp
 simp only
 congr 1
 split <;> rfl
theorem bareR_ok {M:Mem} {x:Sr} (hx:SrOk M x):SrOk M (bareR x):=by
 refine ⟨?_, ?_⟩
 ·unfold bareR
  simp only
  split
  ·exact hx.list
  ·exact ⟨⟨rfl,(fun _ h=>by cases h),.inl rfl⟩,by show (0:Nat)<1000000;decide⟩
 ·unfold bareR
  simp only
  split
  ·exact hx.text
  ·show (0:Nat)<_;decide
theorem lineE_sz {t:ByteArray} (ht:t.size<1000000):(lineE t).1.size≤1376256:=by
 unfold lineE
 by_cases h0:mayB t=true
 ·rw [if_pos h0]
  obtain ⟨hT,hz2⟩:=(mayB_iff (by omega)).1 h0
  have:=line_size 16 (Nat.le_refl _) t hT (by omega)
  generalize lineB 16 t=u at*
  exact Nat.le_trans this (by omega)
 ·rw [if_neg h0];exact Nat.zero_le _
theorem refStep_ok (M:Mem) (L:HL) (hG:G38 M) (x:Sr) (hx:SrOk M x) (hp:SpP x.sp):TrQ Tryz.prog 79 [.agg ⟨srC x⟩] M L (.tuple ⟨[.string (stepT x.sp),.agg ⟨srC (bareR x)⟩]⟩):=by
 have ha:=hp.a
 have hb:=hp.b
 have hc:=hp.c
 have hn:=hp.n
 have h1d:=hp.do_
 have hlist:=hp.list
 have h32:=hp.len
 have htx:x.text.size≤1024:=hp.text
 have hIn:=hx.list
 obtain ⟨d,a,b,c,n,tx,li⟩:=x
 simp only [Sr.sp] at ha hb hc hn h1d hlist h32 htx hIn
 have h9:d=1∨d=2∨d=3∨d=4∨d=5∨d=6∨d=7∨d=8∨d=9:=by omega
 have one: ∀(v:Int),nmW v=true→ ∀u∈ [v],nmW u=true:=fun v h u hu=>by obtain rfl:=List.mem_singleton.1 hu;exact h
 have two: ∀(v w:Int),nmW v=true→nmW w=true→ ∀u∈ [v,w],nmW u=true:=fun v w h h' u hu=>by
  rcases List.mem_cons.1 hu with rfl | hu
  ·exact h
  ·exact one w h' u hu
 have three: ∀(v w z:Int),nmW v=true→nmW w=true→nmW z=true→ ∀u∈ [v,w,z],nmW u=true:=fun v w z h h' h'' u hu=>by
  rcases List.mem_cons.1 hu with rfl | hu
  ·exact h
  ·exact two w z h' h'' u hu
 have fs1: ∀(x:Sp) (o:Nat),fsB x [o]=rwB [getF x o]:=fun _ _=>rfl
 have fs2: ∀(x:Sp) (o o2:Nat),fsB x [o,o2]=rwB [getF x o,getF x o2]:=fun _ _ _=>rfl
 have fs3: ∀(x:Sp) (o o2 o3:Nat),fsB x [o,o2,o3]=rwB [getF x o,getF x o2,getF x o3]:=fun _ _ _ _=>rfl
 rcases h9 with rfl | rfl | rfl | rfl | rfl | rfl | rfl | rfl | rfl
 ·have he:stepT ⟨1,a,b,c,n,tx,li.xs⟩=wSeen++rwB [n]:=app_nil _
  simp only [Sr.sp]
  rw [he]
  refine Tr.intro 135 Tryz.func79 rfl rfl Tryz.call79 rfl ?_;intro C hC hro
  repeat (first | refine yy ?_ | refine yx fun _=> ?_ | refine run_cond (t:=true) rfl (fun _=> ?_) (fun h=>by cases h) | refine run_cond (t:=false) rfl (fun h=>by cases h) (fun _=> ?_))
  refine dd ?_
  refine qqx 0 ?_
  refine qqx 1 ?_
  refine qqx 4 ?_
  refine qqx 5 ?_
  refine qqx 6 ?_
  refine qqx 7 ?_
  refine qqx 8 ?_
  refine pr_one 2 (by decide+kernel) (eff1 2 rfl (st_buildSlice tok rfl rfl rfl rfl rfl rfl rfl) (by decide+kernel) rfl rfl rfl rfl ?_)
  rintro _ _ _ ⟨bl,rfl,rfl,rfl⟩
  refine ppx ?_
  refine qqc 3 (numsL_ok _ _ hG wSeen _ 1 [n] _ rfl List.mem_cons_self rfl (one _ hn) (by decide) (show 1≤32 by decide)) ?_
  refine pr_one 9 (by decide+kernel) (eff1 9 rfl (qt_pev tok rfl) (by decide+kernel) rfl rfl rfl rfl ?_)
  rintro _ _ _ ⟨rfl,rfl,rfl⟩
  refine ppx ?_
  refine pr_one 10 (by decide+kernel) (eff0 10 rfl (sst tok rfl rfl rfl rfl rfl) (by decide+kernel) rfl ?_)
  rintro _ _ _ ⟨rfl,rfl,rfl⟩
  refine ppx ?_
  refine pr_end (by decide+kernel) (by decide+kernel) ?_
  repeat (first | refine yy ?_ | refine yx fun _=> ?_)
  exact run_ret hC (rs:= [.tmp 2,.cell 3 60]) rfl (resT rfl (rl tok rfl resN)) (fun _ h=>h.drop.drop.drop) ⟨rfl,rfl,rfl⟩
 ·have hdz:=dataE_sz (s:=tx)
  have he:stepT ⟨2,a,b,c,n,tx,li.xs⟩=(wData++sp1)++(lineE (dataE tx).1).1:=by
   show ((wData++⟨#[]⟩)++(sp1++_))=_
   rw [app_nil,←app_assoc]
  have hq:=fun L=>refLine_ok M L (dataE tx).1 (by omega)
  have hlz:=lineE_sz (t:=(dataE tx).1) (by omega)
  simp only [Sr.sp]
  rw [he]
  clear he
  generalize lineE (dataE tx).1=e at*
  have hcc:(wData++sp1).size+e.1.size<4611686018427387904:=by show 5+_<_;omega
  refine Tr.intro 135 Tryz.func79 rfl rfl Tryz.call79 rfl ?_;intro C hC hro
  repeat (first | refine yy ?_ | refine dd ?_ | refine yd ?_ | refine yx fun _=> ?_ | refine run_cond (t:=true) rfl (fun _=> ?_) (fun h=>by cases h) | refine run_cond (t:=false) rfl (fun h=>by cases h) (fun _=> ?_) | refine qc (refData_ok _ _ tx (by omega)) ?_ | refine qc (hq _) ?_ | refine pq rfl (qt_concat rfl rfl hcc) ?_)
  exact run_ret hC (rs:= [.tmp 2,.cell 3 60]) rfl (resT rfl (rl tok rfl resN)) (fun _ h=>h.drop.drop) ⟨rfl,rfl,rfl⟩
 ·have he:stepT ⟨3,a,b,c,n,tx,li.xs⟩=wPart++rwB [a,n]:=app_nil _
  simp only [Sr.sp]
  rw [he]
  refine Tr.intro 135 Tryz.func79 rfl rfl Tryz.call79 rfl ?_;intro C hC hro
  repeat (first | refine yy ?_ | refine yx fun _=> ?_ | refine run_cond (t:=true) rfl (fun _=> ?_) (fun h=>by cases h) | refine run_cond (t:=false) rfl (fun h=>by cases h) (fun _=> ?_))
  refine dd ?_
  refine qqx 0 ?_
  refine qqx 1 ?_
  refine qqx 2 ?_
  refine qqx 3 ?_
  refine qqx 6 ?_
  refine qqx 7 ?_
  refine qqx 8 ?_
  refine qqx 9 ?_
  refine qqx 10 ?_
  refine qqx 11 ?_
  refine qqx 12 ?_
  refine pr_one 4 (by decide+kernel) (eff1 4 rfl (st_buildSlice tok rfl rfl rfl rfl rfl rfl rfl) (by decide+kernel) rfl rfl rfl rfl ?_)
  rintro _ _ _ ⟨bl,rfl,rfl,rfl⟩
  refine ppx ?_
  refine qqc 5 (numsL_ok _ _ hG wPart _ 2 [a,n] _ rfl List.mem_cons_self rfl (two _ _ ha hn) (by decide) (show 2≤32 by decide)) ?_
  refine pr_one 13 (by decide+kernel) (eff1 13 rfl (qt_pev tok rfl) (by decide+kernel) rfl rfl rfl rfl ?_)
  rintro _ _ _ ⟨rfl,rfl,rfl⟩
  refine ppx ?_
  refine pr_one 14 (by decide+kernel) (eff0 14 rfl (sst tok rfl rfl rfl rfl rfl) (by decide+kernel) rfl ?_)
  rintro _ _ _ ⟨rfl,rfl,rfl⟩
  refine ppx ?_
  refine pr_end (by decide+kernel) (by decide+kernel) ?_
  repeat (first | refine yy ?_ | refine yx fun _=> ?_)
  exact run_ret hC (rs:= [.tmp 2,.cell 3 60]) rfl (resT rfl (rl tok rfl resN)) (fun _ h=>h.drop.drop.drop) ⟨rfl,rfl,rfl⟩
 ·have he:stepT ⟨4,a,b,c,n,tx,li.xs⟩=wNonce++rwB [a]:=app_nil _
  simp only [Sr.sp]
  rw [he]
  refine Tr.intro 135 Tryz.func79 rfl rfl Tryz.call79 rfl ?_;intro C hC hro
  repeat (first | refine yy ?_ | refine yx fun _=> ?_ | refine run_cond (t:=true) rfl (fun _=> ?_) (fun h=>by cases h) | refine run_cond (t:=false) rfl (fun h=>by cases h) (fun _=> ?_))
  refine dd ?_
  refine qqx 0 ?_
  refine qqx 1 ?_
  refine qqx 4 ?_
  refine qqx 5 ?_
  refine qqx 6 ?_
  refine qqx 7 ?_
  refine qqx 8 ?_
  refine pr_one 2 (by decide+kernel) (eff1 2 rfl (st_buildSlice tok rfl rfl rfl rfl rfl rfl rfl) (by decide+kernel) rfl rfl rfl rfl ?_)
  rintro _ _ _ ⟨bl,rfl,rfl,rfl⟩
  refine ppx ?_
  refine qqc 3 (numsL_ok _ _ hG wNonce _ 1 [a] _ rfl List.mem_cons_self rfl (one _ ha) (by decide) (show 1≤32 by decide)) ?_
  refine pr_one 9 (by decide+kernel) (eff1 9 rfl (qt_pev tok rfl) (by decide+kernel) rfl rfl rfl rfl ?_)
  rintro _ _ _ ⟨rfl,rfl,rfl⟩
  refine ppx ?_
  refine pr_one 10 (by decide+kernel) (eff0 10 rfl (sst tok rfl rfl rfl rfl rfl) (by decide+kernel) rfl ?_)
  rintro _ _ _ ⟨rfl,rfl,rfl⟩
  refine ppx ?_
  refine pr_end (by decide+kernel) (by decide+kernel) ?_
  repeat (first | refine yy ?_ | refine yx fun _=> ?_)
  exact run_ret hC (rs:= [.tmp 2,.cell 3 60]) rfl (resT rfl (rl tok rfl resN)) (fun _ h=>h.drop.drop.drop) ⟨rfl,rfl,rfl⟩
 ·have he:stepT ⟨5,a,b,c,n,tx,li.xs⟩=wBody++rwB [a,b]:=app_nil _
  simp only [Sr.sp]
  rw [he]
  refine Tr.intro 135 Tryz.func79 rfl rfl Tryz.call79 rfl ?_;intro C hC hro
  repeat (first | refine yy ?_ | refine yx fun _=> ?_ | refine run_cond (t:=true) rfl (fun _=> ?_) (fun h=>by cases h) | refine run_cond (t:=false) rfl (fun h=>by cases h) (fun _=> ?_))
  refine dd ?_
  refine qqx 0 ?_
  refine qqx 1 ?_
  refine qqx 2 ?_
  refine qqx 3 ?_
  refine qqx 6 ?_
  refine qqx 7 ?_
  refine qqx 8 ?_
  refine qqx 9 ?_
  refine qqx 10 ?_
  refine qqx 11 ?_
  refine qqx 12 ?_
  refine pr_one 4 (by decide+kernel) (eff1 4 rfl (st_buildSlice tok rfl rfl rfl rfl rfl rfl rfl) (by decide+kernel) rfl rfl rfl rfl ?_)
  rintro _ _ _ ⟨bl,rfl,rfl,rfl⟩
  refine ppx ?_
  refine qqc 5 (numsL_ok _ _ hG wBody _ 2 [a,b] _ rfl List.mem_cons_self rfl (two _ _ ha hb) (by decide) (show 2≤32 by decide)) ?_
  refine pr_one 13 (by decide+kernel) (eff1 13 rfl (qt_pev tok rfl) (by decide+kernel) rfl rfl rfl rfl ?_)
  rintro _ _ _ ⟨rfl,rfl,rfl⟩
  refine ppx ?_
  refine pr_one 14 (by decide+kernel) (eff0 14 rfl (sst tok rfl rfl rfl rfl rfl) (by decide+kernel) rfl ?_)
  rintro _ _ _ ⟨rfl,rfl,rfl⟩
  refine ppx ?_
  refine pr_end (by decide+kernel) (by decide+kernel) ?_
  repeat (first | refine yy ?_ | refine yx fun _=> ?_)
  exact run_ret hC (rs:= [.tmp 2,.cell 3 60]) rfl (resT rfl (rl tok rfl resN)) (fun _ h=>h.drop.drop.drop) ⟨rfl,rfl,rfl⟩
 ·have he:stepT ⟨6,a,b,c,n,tx,li.xs⟩=wRow++rwB li.xs:=by
   show ((wRow++⟨#[]⟩)++_)=_
   rw [app_nil];rfl
  simp only [Sr.sp]
  rw [he]
  refine Tr.intro 135 Tryz.func79 rfl rfl Tryz.call79 rfl ?_;intro C hC hro
  repeat (first | refine yy ?_ | refine dd ?_ | refine yd ?_ | refine yx fun _=> ?_ | refine run_cond (t:=true) rfl (fun _=> ?_) (fun h=>by cases h) | refine run_cond (t:=false) rfl (fun h=>by cases h) (fun _=> ?_) | refine pc (rnums_ok _ _ hG wRow li hIn hlist (by decide) h32) ?_)
  exact run_ret hC (rs:= [.tmp 2,.cell 3 60]) rfl (resT rfl (rl tok rfl resN)) (fun _ h=>h.drop.drop) ⟨rfl,rfl,rfl⟩
 ·have he:stepT ⟨7,a,b,c,n,tx,li.xs⟩=wHash++rwB [a]:=app_nil _
  simp only [Sr.sp]
  rw [he]
  refine Tr.intro 135 Tryz.func79 rfl rfl Tryz.call79 rfl ?_;intro C hC hro
  repeat (first | refine yy ?_ | refine yx fun _=> ?_ | refine run_cond (t:=true) rfl (fun _=> ?_) (fun h=>by cases h) | refine run_cond (t:=false) rfl (fun h=>by cases h) (fun _=> ?_))
  refine dd ?_
  refine qqx 0 ?_
  refine qqx 1 ?_
  refine qqx 4 ?_
  refine qqx 5 ?_
  refine qqx 6 ?_
  refine qqx 7 ?_
  refine qqx 8 ?_
  refine pr_one 2 (by decide+kernel) (eff1 2 rfl (st_buildSlice tok rfl rfl rfl rfl rfl rfl rfl) (by decide+kernel) rfl rfl rfl rfl ?_)
  rintro _ _ _ ⟨bl,rfl,rfl,rfl⟩
  refine ppx ?_
  refine qqc 3 (numsL_ok _ _ hG wHash _ 1 [a] _ rfl List.mem_cons_self rfl (one _ ha) (by decide) (show 1≤32 by decide)) ?_
  refine pr_one 9 (by decide+kernel) (eff1 9 rfl (qt_pev tok rfl) (by decide+kernel) rfl rfl rfl rfl ?_)
  rintro _ _ _ ⟨rfl,rfl,rfl⟩
  refine ppx ?_
  refine pr_one 10 (by decide+kernel) (eff0 10 rfl (sst tok rfl rfl rfl rfl rfl) (by decide+kernel) rfl ?_)
  rintro _ _ _ ⟨rfl,rfl,rfl⟩
  refine ppx ?_
  refine pr_end (by decide+kernel) (by decide+kernel) ?_
  repeat (first | refine yy ?_ | refine yx fun _=> ?_)
  exact run_ret hC (rs:= [.tmp 2,.cell 3 60]) rfl (resT rfl (rl tok rfl resN)) (fun _ h=>h.drop.drop.drop) ⟨rfl,rfl,rfl⟩
 ·have he:stepT ⟨8,a,b,c,n,tx,li.xs⟩=wMac++rwB [a,b]:=app_nil _
  simp only [Sr.sp]
  rw [he]
  refine Tr.intro 135 Tryz.func79 rfl rfl Tryz.call79 rfl ?_;intro C hC hro
  repeat (first | refine yy ?_ | refine yx fun _=> ?_ | refine run_cond (t:=true) rfl (fun _=> ?_) (fun h=>by cases h) | refine run_cond (t:=false) rfl (fun h=>by cases h) (fun _=> ?_))
  refine dd ?_
  refine qqx 0 ?_
  refine qqx 1 ?_
  refine qqx 2 ?_
  refine qqx 3 ?_
  refine qqx 6 ?_
  refine qqx 7 ?_
  refine qqx 8 ?_
  refine qqx 9 ?_
  refine qqx 10 ?_
  refine qqx 11 ?_
  refine qqx 12 ?_
  refine pr_one 4 (by decide+kernel) (eff1 4 rfl (st_buildSlice tok rfl rfl rfl rfl rfl rfl rfl) (by decide+kernel) rfl rfl rfl rfl ?_)
  rintro _ _ _ ⟨bl,rfl,rfl,rfl⟩
  refine ppx ?_
  refine qqc 5 (numsL_ok _ _ hG wMac _ 2 [a,b] _ rfl List.mem_cons_self rfl (two _ _ ha hb) (by decide) (show 2≤32 by decide)) ?_
  refine pr_one 13 (by decide+kernel) (eff1 13 rfl (qt_pev tok rfl) (by decide+kernel) rfl rfl rfl rfl ?_)
  rintro _ _ _ ⟨rfl,rfl,rfl⟩
  refine ppx ?_
  refine pr_one 14 (by decide+kernel) (eff0 14 rfl (sst tok rfl rfl rfl rfl rfl) (by decide+kernel) rfl ?_)
  rintro _ _ _ ⟨rfl,rfl,rfl⟩
  refine ppx ?_
  refine pr_end (by decide+kernel) (by decide+kernel) ?_
  repeat (first | refine yy ?_ | refine yx fun _=> ?_)
  exact run_ret hC (rs:= [.tmp 2,.cell 3 60]) rfl (resT rfl (rl tok rfl resN)) (fun _ h=>h.drop.drop.drop) ⟨rfl,rfl,rfl⟩
 ·have he:stepT ⟨9,a,b,c,n,tx,li.xs⟩=wSeal++rwB [a,b,c]:=app_nil _
  simp only [Sr.sp]
  rw [he]
  refine Tr.intro 135 Tryz.func79 rfl rfl Tryz.call79 rfl ?_;intro C hC hro
  repeat (first | refine yy ?_ | refine yx fun _=> ?_ | refine run_cond (t:=true) rfl (fun _=> ?_) (fun h=>by cases h) | refine run_cond (t:=false) rfl (fun h=>by cases h) (fun _=> ?_))
  refine dd ?_
  refine qqx 0 ?_
  refine qqx 1 ?_
  refine qqx 2 ?_
  refine qqx 3 ?_
  refine qqx 4 ?_
  refine qqx 5 ?_
  refine qqx 8 ?_
  refine qqx 9 ?_
  refine qqx 10 ?_
  refine qqx 11 ?_
  refine qqx 12 ?_
  refine qqx 13 ?_
  refine qqx 14 ?_
  refine qqx 15 ?_
  refine qqx 16 ?_
  refine pr_one 6 (by decide+kernel) (eff1 6 rfl (st_buildSlice tok rfl rfl rfl rfl rfl rfl rfl) (by decide+kernel) rfl rfl rfl rfl ?_)
  rintro _ _ _ ⟨bl,rfl,rfl,rfl⟩
  refine ppx ?_
  refine qqc 7 (numsL_ok _ _ hG wSeal _ 3 [a,b,c] _ rfl List.mem_cons_self rfl (three _ _ _ ha hb hc) (by decide) (show 3≤32 by decide)) ?_
  refine pr_one 17 (by decide+kernel) (eff1 17 rfl (qt_pev tok rfl) (by decide+kernel) rfl rfl rfl rfl ?_)
  rintro _ _ _ ⟨rfl,rfl,rfl⟩
  refine ppx ?_
  refine pr_one 18 (by decide+kernel) (eff0 18 rfl (sst tok rfl rfl rfl rfl rfl) (by decide+kernel) rfl ?_)
  rintro _ _ _ ⟨rfl,rfl,rfl⟩
  refine ppx ?_
  refine pr_end (by decide+kernel) (by decide+kernel) ?_
  repeat (first | refine yy ?_ | refine yx fun _=> ?_)
  exact run_ret hC (rs:= [.tmp 2,.cell 3 60]) rfl (resT rfl (rl tok rfl resN)) (fun _ h=>h.drop.drop.drop) ⟨rfl,rfl,rfl⟩
def clashI (a b:ByteArray):Bool:=decide (refN (runI a)=0∧refN (runI b)=0∧a≠b)&&decide (lookL a=lookL b)
theorem clashI_iff (a b:ByteArray):clashI a b=true↔ClashI a b:=by
 unfold clashI ClashI
 simp only [Bool.and_eq_true,decide_eq_true_eq,refN_zero]
 constructor
 ·rintro ⟨⟨h1,h2,h3⟩,h4⟩;exact ⟨h1,h2,h3,h4⟩
 ·rintro ⟨h1,h2,h3,h4⟩;exact ⟨⟨h1,h2,h3⟩,h4⟩
theorem refClash_ok (M:Mem) (L:HL) (a b:ByteArray) (ha:a.size<1000000) (hb:b.size<1000000):TrQ Tryz.prog 51 [.string a,.string b] M L (.bool (clashI a b)):=by
 have hca:=fun M L=>refCheckN_ok M L a ha
 have hcb:=fun M L=>refCheckN_ok M L b hb
 have hv:(((refN (runI a)==0)&&(refN (runI b)==0))&& !(a.toList==b.toList))=decide (refN (runI a)=0∧refN (runI b)=0∧a≠b):=by
  rw [bytes_beq,Bool.eq_iff_iff];simp [and_assoc]
 have hdef:clashI a b=(decide (refN (runI a)=0∧refN (runI b)=0∧a≠b)&&decide (lookL a=lookL b)):=rfl
 generalize refN (runI a)=na at*
 generalize refN (runI b)=nb at*
 refine Tr.intro 26 Tryz.func51 rfl rfl Tryz.call51 rfl ?_;intro C hC hro
 repeat (first | refine zc ?_ | refine vq ?_)
 refine qc (hca _ _) ?_
 iterate 3 refine yy ?_
 refine gc (hcb _ _) ?_
 iterate 8 refine yy ?_
 by_cases hq:na=0∧nb=0∧a≠b
 ·rw [decide_eq_true hq] at hv hdef
  refine runL_as 18 (.bool true) rfl (congrArg Value.bool hv) ?_
  repeat (first | refine yk ?_ | refine yx fun _=> ?_)
  refine ok (refLooks_ok _ _ a ha) ?_
  rintro _ M1 _ ⟨hM1,rfl,q1,d1,rfl,hs1⟩
  repeat (first | refine yk ?_ | refine yx fun _=> ?_)
  refine ok (refLooks_ok _ _ b hb) ?_
  rintro _ M2 _ ⟨hM2,rfl,q2,d2,rfl,hs2⟩
  have hl6:(lookL a).length<1000000:=by
   have:=runI_len a
   rw [←look_run,List.length_map];omega
  refine ok (refCompare_ok _ _ (lookL a) (lookL b) q1 q2 d1 d2 (hs1.le hM2) hs2 hl6) ?_
  rintro _ _ _ ⟨rfl,rfl,c,rfl,hcm⟩
  have hc0:(c==0)=decide (lookL a=lookL b):=by rw [Bool.eq_iff_iff];simpa using hcm
  rw [Bool.true_and,←hc0] at hdef
  repeat (first | refine yk ?_ | refine yx fun _=> ?_)
  exact run_ret hC (rs:= [.tmp 4]) rfl (resT rfl resN) (fun _ h=>h.of_le (Mem.le_trans hM1 hM2)) ⟨by rw [hdef];rfl,rfl,rfl⟩
 ·rw [decide_eq_false hq] at hv hdef
  refine runL_as 18 (.bool false) rfl (congrArg Value.bool hv) ?_
  repeat (first | refine yk ?_ | refine yx fun _=> ?_)
  exact run_ret hC (rs:= [.tmp 4]) rfl (resT rfl resN) (fun _ h=>h) ⟨by rw [hdef];rfl,rfl,rfl⟩
theorem refRoll_ok (M:Mem) (L:HL) (S:SStr) (hS:StOk M S) (hz: ∀x∈S.xs,x.size<1000000):TrQ Tryz.prog 17 [S.v] M L (.bool (rollB S.xs)):=by
 have hl:=hS.len
 have h6:=hS.2
 have h0:=hS.1
 obtain ⟨a,n,c,xs⟩:=S
 simp only [SStr.v] at*
 have hiff:=roll_iff xs
 have hno: ∀ {P:Prop},P→(RollI xs→ ¬P)→rollB xs=false:=fun hp h=>by
  cases hr:rollB xs with
  | false=>rfl
  | true=>exact absurd hp (h (hiff.1 hr))
 refine Tr.intro 50 Tryz.func17 rfl rfl Tryz.call17 rfl ?_;intro C hC hro
 repeat (first | refine yy ?_ | refine yx fun _=> ?_)
 refine run_cond (t:=decide ((n:Int)<1)||decide ((n:Int)>8)) rfl (fun h=> ?_) (fun h=> ?_)
 ·have hf:=hno h fun hr h=>by have:=hr.len;simp at h;omega
  repeat (first | refine yy ?_ | refine yx fun _=> ?_)
  exact run_ret hC (rs:= [.tmp 2]) rfl (resT rfl resN) (fun _ h=>h) ⟨by rw [hf];rfl,rfl,rfl⟩
 have hlen:1≤xs.length∧xs.length≤8:=by simp at h;omega
 clear h
 repeat (first | refine yy ?_ | refine yx fun _=> ?_)
 refine run_loopN (fun j σ1 M1 L1=>j≤n∧M=M1∧L=L1∧(∀(i:Nat) (x:ByteArray),i<j→xs[i]? =some x→NameI (runI x)∧ ∀(k:Nat) (y:ByteArray),k<i→xs[k]? =some y→y≠x∧ ¬ClashI y x)∧σ1= [(3,iv j),(0,.slice a n c)]) n [(3,iv 0),(0,.slice a n c)] ?_ ⟨Nat.zero_le _,rfl,rfl,(fun _ _ h=>by omega),rfl⟩ (fun j _ _ _ h=>h.1) ?_
 ·exact ⟨rfl,rfl,trivial⟩
 rintro j _ _ _ ⟨hj,rfl,rfl,hpre,rfl⟩ hnext
 repeat (first | refine yy ?_ | refine yx fun _=> ?_)
 refine run_cond (t:=decide ((j:Int)<(n:Int))) rfl (fun h=> ?_) (fun h=> ?_)
 rotate_left
 ·have hge:j=n:=by have:=of_decide_eq_false h;omega
  have ht:rollB xs=true:=hiff.2 ⟨hlen,fun i x hi=>hpre i x (by have:=(List.getElem?_eq_some_iff.1 hi).1;omega) hi⟩
  repeat (first | refine yy ?_ | refine yx fun _=> ?_)
  exact run_ret hC (rs:= [.tmp 2]) rfl (resT rfl resN) (fun _ h=>h) ⟨by rw [ht];rfl,rfl,rfl⟩
 have hlt:j<n:=by have:=of_decide_eq_true h;omega
 obtain ⟨b1,o1,x,rfl,hx,hc1⟩:=SStr.at_ h0 hlt
 have hxz:=hz x (List.mem_of_getElem? hx)
 repeat (first | refine yy ?_ | refine yx fun _=> ?_ | refine qc (refCheckN_ok _ _ x hxz) ?_)
 refine run_cond (t:=refN (runI x) !=0) rfl (fun h=> ?_) (fun h=> ?_)
 ·have hf:=hno h fun hr h=>by
   have:=(refN_zero (runI x)).2 (hr.each j x hx).1
   rw [this] at h;cases h
  repeat (first | refine yy ?_ | refine yx fun _=> ?_)
  exact run_ret hC (rs:= [.tmp 2]) rfl (resT rfl resN) (fun _ h=>h) ⟨by rw [hf];rfl,rfl,rfl⟩
 have hnm:NameI (runI x):=(refN_zero _).1 (by simpa using h)
 clear h
 repeat (first | refine yy ?_ | refine yx fun _=> ?_)
 refine run_loopN (fun k σ1 M1 L1=>k≤j∧M=M1∧L=L1∧(∀(i:Nat) (y:ByteArray),i<k→xs[i]? =some y→y≠x∧ ¬ClashI y x)∧σ1= [(4,iv k),(3,iv j),(0,.slice (some ⟨b1,o1,none⟩) n c)]) j [(4,iv 0),(3,iv j),(0,.slice (some ⟨b1,o1,none⟩) n c)] ?_ ⟨Nat.zero_le _,rfl,rfl,(fun _ _ h=>by omega),rfl⟩ (fun j _ _ _ h=>h.1) ?_
 ·exact ⟨rfl,rfl,rfl,trivial⟩
 rintro k _ _ _ ⟨hk,rfl,rfl,hin,rfl⟩ hnext2
 repeat (first | refine yy ?_ | refine yx fun _=> ?_)
 refine run_cond (t:=decide ((k:Int)<(j:Int))) rfl (fun h=> ?_) (fun h=> ?_)
 ·have hlt2:k<j:=by have:=of_decide_eq_true h;omega
  obtain ⟨b2,o2,y,e2,hy,hc2⟩:=SStr.at_ h0 (show k<n by omega)
  cases e2
  have hyz:=hz y (List.mem_of_getElem? hy)
  have hkn:k<n:=by omega
  repeat (first | refine yy ?_ | refine dd ?_ | refine yd ?_ | refine yx fun _=> ?_ | refine pgc (refClash_ok _ _ y x hyz hxz) ?_)
  refine run_cond (t:=(y.toList==x.toList)||clashI y x) rfl (fun h=> ?_) (fun h=> ?_)
  ·have hf:=hno h fun hr h=>by
    obtain ⟨q1,q2⟩:=(hr.each j x hx).2 k y hlt2 hy
    rw [bytes_beq,Bool.or_eq_true] at h
    rcases h with h | h
    ·exact q1 (by simpa using h)
    ·exact q2 ((clashI_iff _ _).1 h)
   repeat (first | refine yy ?_ | refine yx fun _=> ?_)
   exact run_ret hC (rs:= [.tmp 2]) rfl (resT rfl resN) (fun _ h=>h) ⟨by rw [hf];rfl,rfl,rfl⟩
  ·rw [bytes_beq,Bool.or_eq_false_iff] at h
   obtain ⟨g1,g2⟩:=h
   repeat (first | refine yy ?_ | refine yx fun _=> ?_)
   refine run_sub' (hnext2 _ _ _ ⟨hlt2,rfl,rfl,fun i z hi hzz=> ?_,rfl⟩) ⟨lk_succ rfl (by omega),rfl,rfl,trivial⟩
   by_cases hik:i=k
   ·subst hik
    rw [hy] at hzz
    obtain rfl:=Option.some.inj hzz
    exact ⟨by simpa using g1,fun hc=>by rw [(clashI_iff _ _).2 hc] at g2;cases g2⟩
   ·exact hin i z (by omega) hzz
 ·have hge:k=j:=by have:=of_decide_eq_false h;omega
  subst hge
  repeat (first | refine yy ?_ | refine yx fun _=> ?_)
  refine run_sub' (hnext _ _ _ ⟨hlt,rfl,rfl,fun i z hi hzz=> ?_,rfl⟩) ⟨lk_succ rfl (by omega),rfl,trivial⟩
  by_cases hik:i=k
  ·subst hik
   rw [hx] at hzz
   obtain rfl:=Option.some.inj hzz
   exact ⟨hnm,hin⟩
  ·exact hpre i z (by omega) hzz
def isT (t:ByteArray):Bool:=checkR t==0
theorem ref06May_ok (M:Mem) (L:HL) (t:ByteArray) (ht:t.size<4611686018427387904):TrQ Tryz.prog 116 [.string t] M L (.bool (isT t)):=by
 refine Tr.intro 6 Tryz.func116 rfl rfl Tryz.call116 rfl ?_;intro C hC hro
 repeat (first | refine zz ?_ | refine zx fun _=> ?_ | refine runL_q (qt_callF rfl (fun _=>refCheck_ok _ _ t ht)) rfl rfl rfl ?_)
 exact run_ret hC (rs:= [.tmp 2]) rfl (resT rfl resN) (fun _ h=>h) ⟨by rw [isT,←refCheck_eq _ ht];rfl,rfl,rfl⟩
theorem refOrg_ok (M:Mem) (L:HL) (n:Int):TrQ Tryz.prog 82 [.int .i64 n] M L (.bool (orgW n)):=by
 refine Tr.intro 9 Tryz.func82 rfl rfl Tryz.call82 rfl ?_;intro C hC hro
 repeat (first | refine zz ?_ | refine zx fun _=> ?_)
 exact run_ret hC (rs:= [.tmp 2]) rfl (resT rfl resN) (fun _ h=>h) ⟨rfl,rfl,rfl⟩
theorem refTx_ok (M:Mem) (L:HL) (t:Tx):TrQ Tryz.prog 44 [.agg ⟨txC t⟩] M L (.bool (mayTx t)):=by
 refine Tr.intro 26 Tryz.func44 rfl rfl Tryz.call44 rfl ?_;intro C hC hro
 repeat (first | refine zz ?_ | refine zx fun _=> ?_ | refine runL_q (qt_callF rfl (fun _=>refOrg_ok _ _ _)) rfl rfl rfl ?_)
 exact run_ret hC (rs:= [.tmp 2]) rfl (resT rfl resN) (fun _ h=>h.drop) ⟨rfl,rfl,rfl⟩
theorem refNm_ok (M:Mem) (L:HL) (n:Int):TrQ Tryz.prog 115 [.int .i64 n] M L (.bool (nmW n)):=by
 refine Tr.intro 9 Tryz.func115 rfl rfl Tryz.call115 rfl ?_;intro C hC hro
 repeat (first | refine zz ?_ | refine zx fun _=> ?_)
 exact run_ret hC (rs:= [.tmp 2]) rfl (resT rfl resN) (fun _ h=>h) ⟨rfl,rfl,rfl⟩
set_option maxRecDepth 10000 in
theorem refMayStep_ok (M:Mem) (L:HL) (x:Sr) (hx:SrOk M x) (r:Bool) (hr:r=true↔SpP x.sp):TrQ Tryz.prog 117 [.agg ⟨srC x⟩] M L (.bool r):=by
 have l1:=hx.list.len
 have n1:=hx.list.2
 refine Tr.intro 62 Tryz.func117 rfl rfl Tryz.call117 rfl ?_;intro C hC hro
 repeat (first | refine zz ?_ | refine zx fun _=> ?_ | refine runL_g rfl rfl (qt_callF rfl (fun _=>refNm_ok _ _ x.a)) rfl rfl rfl rfl rfl ?_ | refine runL_g rfl rfl (qt_callF rfl (fun _=>refNm_ok _ _ x.b)) rfl rfl rfl rfl rfl ?_ | refine runL_g rfl rfl (qt_callF rfl (fun _=>refNm_ok _ _ x.c)) rfl rfl rfl rfl rfl ?_ | refine runL_g rfl rfl (qt_callF rfl (fun _=>refNm_ok _ _ x.n)) rfl rfl rfl rfl rfl ?_)
 rename_i bx
 refine run_cond rfl (fun h=> ?_) (fun h=> ?_)
 ·have hrf:r=false:=by
   cases r with
   | false=>rfl
   | true=>
     exfalso
     obtain ⟨⟨d1,d2⟩,h2,h3,h4,h5,h6,h7,h8⟩:=hr.1 rfl
     simp only [Sr.sp] at d1 d2 h2 h3 h4 h5 h6 h7
     rw [l1] at h7
     simp only [h2,h3,h4,h5,Bool.not_true,Bool.or_false,Bool.or_eq_true,decide_eq_true_eq] at h
     omega
  subst hrf
  repeat (first | refine zz ?_ | refine zx fun _=> ?_)
  exact run_ret hC (rs:= [.tmp 2]) rfl (resT rfl resN) (fun _ h=>h.drop) ⟨rfl,rfl,rfl⟩
 have hr2:r=true↔ ∀v∈x.list.xs,nmW v=true:=by
  rw [hr]
  simp only [Bool.or_eq_false_iff,decide_eq_false_iff_not,Bool.not_eq_false'] at h
  obtain ⟨⟨⟨⟨⟨⟨⟨d1,d2⟩,h2⟩,h3⟩,h4⟩,h5⟩,h6⟩,h7⟩:=h
  exact ⟨fun q=>q.list,fun q=>⟨by show 1≤x.do_∧x.do_≤9;omega,h2,h3,h4,h5,by show x.text.size≤1024;omega,by show x.list.xs.length≤32;omega,q⟩⟩
 repeat (first | refine zz ?_ | refine zx fun _=> ?_)
 refine run_loopN (fun j σ1 M1 L1=>j≤x.list.len∧M=M1∧(∀v∈x.list.xs.take j,nmW v=true)∧L1=(bx,.cells ⟨srC x⟩ 60 (0,0))::L∧σ1= [(3,.int .i64 (j:Int)),(1,.pointer (some ⟨bx,0,none⟩))]) x.list.len [(3,.int .i64 ((0:Nat):Int)),(1,.pointer (some ⟨bx,0,none⟩))] ?_ ⟨Nat.zero_le _,rfl,by simp,rfl,rfl⟩ (fun j _ _ _ h=>h.1) ?_
 ·exact ⟨rfl,rfl,trivial⟩
 rintro j _ _ _ ⟨hj,rfl,hall,rfl,rfl⟩ hnext
 repeat (first | refine zz ?_ | refine zx fun _=> ?_)
 refine run_cond rfl (fun h=> ?_) (fun h=> ?_)
 ·have hlt:j<x.list.len:=by simpa using h
  obtain ⟨b,off,m,hma,hm,hc⟩:=SIn.at_ hx.list.1 hlt
  have hv:x.list.v= .slice (some ⟨b,off,none⟩) x.list.len x.list.cap:=by rw [←hma];rfl
  repeat (first | refine zz ?_ | refine zx fun _=> ?_)
  refine runL_as 56 (.slice (some ⟨b,off,none⟩) x.list.len x.list.cap) rfl hv ?_
  repeat (first | refine zz ?_ | refine zx fun _=> ?_ | refine runL_q (qt_indexN tok rfl rfl rfl rfl (fun _=>by omega)) rfl rfl rfl ?_ | refine runL_g rfl rfl (qt_indexN tok rfl rfl rfl rfl (fun _=>by omega)) rfl rfl rfl rfl rfl ?_ | refine runL_q (qt_ldM tok rfl hc rfl) rfl rfl rfl ?_ | refine runL_g rfl rfl (qt_ldM tok rfl hc rfl) rfl rfl rfl rfl rfl ?_ | refine runL_q (qt_ldM0 tok rfl hc rfl) rfl rfl rfl ?_ | refine runL_g rfl rfl (qt_ldM0 tok rfl hc rfl) rfl rfl rfl rfl rfl ?_ | refine runL_q (qt_callF rfl (fun _=>refNm_ok _ _ m)) rfl rfl rfl ?_)
  refine run_cond rfl (fun h=> ?_) (fun h=> ?_)
  ·have hrf:r=false:=by
    cases r with
    | false=>rfl
    | true=>
      have h2:=hr2.1 rfl m (List.mem_of_getElem? hm)
      rw [h2] at h;cases h
   subst hrf
   repeat (first | refine zz ?_ | refine zx fun _=> ?_)
   exact run_ret hC (rs:= [.tmp 2]) rfl (resT rfl resN) (fun _ h=>h.drop) ⟨rfl,rfl,rfl⟩
  ·have hmm:nmW m=true:=by simpa using h
   repeat (first | refine zz ?_ | refine zx fun _=> ?_)
   refine run_sub' (hnext _ _ _ ⟨hlt,rfl, ?_,rfl,rfl⟩) ⟨lk_succ rfl (by omega),rfl,trivial⟩
   intro v hv
   rw [take_snoc hm] at hv
   rcases List.mem_append.1 hv with hv | hv
   ·exact hall v hv
   ·rw [List.mem_singleton.1 hv];exact hmm
 ·have hge:j=x.list.len:=by simp at h;omega
  subst hge
  rw [List.take_of_length_le (by omega)] at hall
  have hrt:r=true:=hr2.2 hall
  subst hrt
  repeat (first | refine zz ?_ | refine zx fun _=> ?_)
  exact run_ret hC (rs:= [.tmp 2]) rfl (resT rfl resN) (fun _ h=>h.drop) ⟨rfl,rfl,rfl⟩
def ofL (k:Int):List Bool:=
 if k=1 then [true,true,false,true,false,false,false] else
 if k=2 then [true,false,false,false,true,true,false] else
 if k=3∨k=8 then [true,false,false,false,false,false,false] else
 if k=4 then [false,false,true,false,false,false,false] else
 if k=5∨k=10 then [true,false,false,false,false,false,true] else
 if k=6∨k=7 then [true,false,true,false,false,false,false] else
 if k=9 then [true,false,false,false,true,false,false] else [false,false,false,false,false,false,false]
def ofC (k:Int):List Value:=(ofL k).map Value.bool
set_option maxRecDepth 10000 in
theorem refOf_ok (M:Mem) (L:HL) (k:Int):TrQ Tryz.prog 78 [.int .u8 k] M L (.tuple ⟨[.agg ⟨ofC k⟩,.bool (decide (1≤k∧k≤10))]⟩):=by
 refine Tr.intro 30 Tryz.func78 rfl rfl Tryz.call78 rfl ?_;intro C hC hro
 by_cases hk:1≤k∧k≤10
 ·have hk10:k=1∨k=2∨k=3∨k=4∨k=5∨k=6∨k=7∨k=8∨k=9∨k=10:=by omega
  rcases hk10 with rfl | rfl | rfl | rfl | rfl | rfl | rfl | rfl | rfl | rfl
  ·repeat (first | refine zz ?_ | refine zx fun _=> ?_ | refine run_cond rfl (fun _=> ?_) (fun h=>absurd h (by decide)) | refine run_cond rfl (fun h=>absurd h (by decide)) (fun _=> ?_))
   exact run_ret hC (rs:= [.cell 2 119,.tmp 3]) rfl (rl tok rfl (resT rfl resN)) (fun _ h=>h.drop) ⟨rfl,rfl,rfl⟩
  ·repeat (first | refine zz ?_ | refine zx fun _=> ?_ | refine run_cond rfl (fun _=> ?_) (fun h=>absurd h (by decide)) | refine run_cond rfl (fun h=>absurd h (by decide)) (fun _=> ?_))
   exact run_ret hC (rs:= [.cell 2 119,.tmp 3]) rfl (rl tok rfl (resT rfl resN)) (fun _ h=>h.drop) ⟨rfl,rfl,rfl⟩
  ·repeat (first | refine zz ?_ | refine zx fun _=> ?_ | refine run_cond rfl (fun _=> ?_) (fun h=>absurd h (by decide)) | refine run_cond rfl (fun h=>absurd h (by decide)) (fun _=> ?_))
   exact run_ret hC (rs:= [.cell 2 119,.tmp 3]) rfl (rl tok rfl (resT rfl resN)) (fun _ h=>h.drop) ⟨rfl,rfl,rfl⟩
  ·repeat (first | refine zz ?_ | refine zx fun _=> ?_ | refine run_cond rfl (fun _=> ?_) (fun h=>absurd h (by decide)) | refine run_cond rfl (fun h=>absurd h (by decide)) (fun _=> ?_))
   exact run_ret hC (rs:= [.cell 2 119,.tmp 3]) rfl (rl tok rfl (resT rfl resN)) (fun _ h=>h.drop) ⟨rfl,rfl,rfl⟩
  ·repeat (first | refine zz ?_ | refine zx fun _=> ?_ | refine run_cond rfl (fun _=> ?_) (fun h=>absurd h (by decide)) | refine run_cond rfl (fun h=>absurd h (by decide)) (fun _=> ?_))
   exact run_ret hC (rs:= [.cell 2 119,.tmp 3]) rfl (rl tok rfl (resT rfl resN)) (fun _ h=>h.drop) ⟨rfl,rfl,rfl⟩
  ·repeat (first | refine zz ?_ | refine zx fun _=> ?_ | refine run_cond rfl (fun _=> ?_) (fun h=>absurd h (by decide)) | refine run_cond rfl (fun h=>absurd h (by decide)) (fun _=> ?_))
   exact run_ret hC (rs:= [.cell 2 119,.tmp 3]) rfl (rl tok rfl (resT rfl resN)) (fun _ h=>h.drop) ⟨rfl,rfl,rfl⟩
  ·repeat (first | refine zz ?_ | refine zx fun _=> ?_ | refine run_cond rfl (fun _=> ?_) (fun h=>absurd h (by decide)) | refine run_cond rfl (fun h=>absurd h (by decide)) (fun _=> ?_))
   exact run_ret hC (rs:= [.cell 2 119,.tmp 3]) rfl (rl tok rfl (resT rfl resN)) (fun _ h=>h.drop) ⟨rfl,rfl,rfl⟩
  ·repeat (first | refine zz ?_ | refine zx fun _=> ?_ | refine run_cond rfl (fun _=> ?_) (fun h=>absurd h (by decide)) | refine run_cond rfl (fun h=>absurd h (by decide)) (fun _=> ?_))
   exact run_ret hC (rs:= [.cell 2 119,.tmp 3]) rfl (rl tok rfl (resT rfl resN)) (fun _ h=>h.drop) ⟨rfl,rfl,rfl⟩
  ·repeat (first | refine zz ?_ | refine zx fun _=> ?_ | refine run_cond rfl (fun _=> ?_) (fun h=>absurd h (by decide)) | refine run_cond rfl (fun h=>absurd h (by decide)) (fun _=> ?_))
   exact run_ret hC (rs:= [.cell 2 119,.tmp 3]) rfl (rl tok rfl (resT rfl resN)) (fun _ h=>h.drop) ⟨rfl,rfl,rfl⟩
  ·repeat (first | refine zz ?_ | refine zx fun _=> ?_ | refine run_cond rfl (fun _=> ?_) (fun h=>absurd h (by decide)) | refine run_cond rfl (fun h=>absurd h (by decide)) (fun _=> ?_))
   exact run_ret hC (rs:= [.cell 2 119,.tmp 3]) rfl (rl tok rfl (resT rfl resN)) (fun _ h=>h.drop) ⟨rfl,rfl,rfl⟩
 ·have hd:decide (1≤k∧k≤10)=false:=decide_eq_false hk
  have hp:ofC k= [.bool false,.bool false,.bool false,.bool false,.bool false,.bool false,.bool false]:=by
   unfold ofC ofL
   rw [if_neg (by omega),if_neg (by omega),if_neg (by omega),if_neg (by omega),if_neg (by omega),if_neg (by omega),if_neg (by omega)]
   rfl
  rw [hd,hp] at hC
  repeat (first | refine zz ?_ | refine zx fun _=> ?_ | refine run_cond rfl (fun h=>absurd h (by simp;omega)) (fun _=> ?_))
  exact run_ret hC (rs:= [.cell 2 119,.tmp 3]) rfl (rl tok rfl (resT rfl resN)) (fun _ h=>h.drop) ⟨rfl,rfl,rfl⟩
def dB (is o au n g t y s:Bool) (x:Ax):Bool:=(((((((!is)||((!o)&&(x.org !=0)))||((!au)&&(x.auditor !=0)))||((!n)&&(x.n !=0)))||((!g)&&decide ((x.gives.len:Int)>0)))||((!t)&& !((x.txn.coord==0)&&((x.txn.epoch==0)&&((x.txn.seq==0)&&true)))))||((!y)&&x.yes))||((!s)&&decide ((x.steps.len:Int)>0))
def dD (t:Bool) (x:Ax):Bool:=(((((!orgW x.org)|| !orgW x.auditor)|| !nmW x.n)||(t&& !mayTx x.txn))||decide ((x.gives.len:Int)>6))||decide ((x.steps.len:Int)>64)
theorem dB_iff {is o au n g t y s:Bool} {x:Ax} (hi:is=true↔1≤x.do_∧x.do_≤10) (h1:1≤x.do_∧x.do_≤10→(o=true↔x.do_≠4)) (h2:1≤x.do_∧x.do_≤10→(au=true↔x.do_=1)) (h3:1≤x.do_∧x.do_≤10→(n=true↔x.do_=4∨x.do_=6∨x.do_=7)) (h4:1≤x.do_∧x.do_≤10→(g=true↔x.do_=1)) (h5:1≤x.do_∧x.do_≤10→(t=true↔x.do_=2∨x.do_=9)) (h6:1≤x.do_∧x.do_≤10→(y=true↔x.do_=2)) (h7:1≤x.do_∧x.do_≤10→(s=true↔x.do_=5∨x.do_=10)):
 dB is o au n g t y s x=false↔(1≤x.do_∧x.do_≤10)∧bareA x=true:=by
 have e1: ∀(b:Bool) (v:Int),((!b)&&(v !=0))=false↔(b=false→v=0):=fun b v=>by cases b <;> simp
 have e2: ∀(b:Bool) (v:Nat),((!b)&&decide ((v:Int)>0))=false↔(b=false→v=0):=fun b v=>by cases b <;> simp
 have e3: ∀(b c:Bool),((!b)&&c)=false↔(b=false→c=false):=fun b v=>by cases b <;> simp
 have e4:(!((x.txn.coord==0)&&((x.txn.epoch==0)&&((x.txn.seq==0)&&true))))=false↔x.txn=tz:=by
  rw [Bool.not_eq_false']
  exact ⟨tx_tz,fun h=>by rw [h];rfl⟩
 unfold dB
 rw [bareA_iff]
 simp only [Bool.or_eq_false_iff,e1,e2,e3 t,e4,e3 y]
 have nf: ∀ {b:Bool} {P:Prop},(b=true↔P)→(b=false↔ ¬P):=fun {b P} h=>by rw [←h];simp
 constructor
 ·rintro ⟨⟨⟨⟨⟨⟨⟨a0,a1⟩,a2⟩,a3⟩,a4⟩,a5⟩,a6⟩,a7⟩
  have hk:=hi.1 (by simpa using a0)
  have n1:=nf (h1 hk);have n2:=nf (h2 hk);have n3:=nf (h3 hk);have n4:=nf (h4 hk);have n5:=nf (h5 hk);have n6:=nf (h6 hk);have n7:=nf (h7 hk)
  exact ⟨hk,fun q=>a1 (n1.2 (by omega)),fun q=>⟨a2 (n2.2 q),a4 (n4.2 q)⟩,fun q=>a5 (n5.2 (by omega)),fun q=>a6 (n6.2 q),fun q=>a7 (n7.2 (by omega)),fun q=>a3 (n3.2 (by omega))⟩
 ·rintro ⟨hk,b1,b2,b3,b4,b5,b6⟩
  have n1:=nf (h1 hk);have n2:=nf (h2 hk);have n3:=nf (h3 hk);have n4:=nf (h4 hk);have n5:=nf (h5 hk);have n6:=nf (h6 hk);have n7:=nf (h7 hk)
  exact ⟨⟨⟨⟨⟨⟨⟨by simpa using hi.2 hk,fun q=>b1 (by have:=n1.1 q;omega)⟩,fun q=>(b2 (n2.1 q)).1⟩,fun q=>b6 (by have:=n3.1 q;omega)⟩,fun q=>(b2 (n4.1 q)).2⟩,fun q=>b3 (by have:=n5.1 q;omega)⟩,fun q=>b4 (n6.1 q)⟩,fun q=>b5 (by have:=n7.1 q;omega)⟩
theorem dD_iff {t:Bool} {x:Ax} :dD t x=false↔orgW x.org=true∧orgW x.auditor=true∧nmW x.n=true∧(t=true→mayTx x.txn=true)∧x.gives.len≤6∧x.steps.len≤64:=by
 have e3:(t&& !mayTx x.txn)=false↔(t=true→mayTx x.txn=true):=by cases t <;> simp
 unfold dD
 simp only [Bool.or_eq_false_iff,e3,Bool.not_eq_false',decide_eq_false_iff_not]
 constructor
 ·rintro ⟨⟨⟨⟨⟨a0,a1⟩,a2⟩,a3⟩,a4⟩,a5⟩;exact ⟨a0,a1,a2,a3,by omega,by omega⟩
 ·rintro ⟨a0,a1,a2,a3,a4,a5⟩;exact ⟨⟨⟨⟨⟨a0,a1⟩,a2⟩,a3⟩,by omega⟩,by omega⟩
theorem of_ex (k:Int): ∃o au n g t y s:Bool,ofC k= [.bool o,.bool au,.bool n,.bool g,.bool t,.bool y,.bool s]∧
 (1≤k∧k≤10→(o=true↔k≠4))∧(1≤k∧k≤10→(au=true↔k=1))∧(1≤k∧k≤10→(n=true↔k=4∨k=6∨k=7))∧(1≤k∧k≤10→(g=true↔k=1))∧(1≤k∧k≤10→(t=true↔k=2∨k=9))∧(1≤k∧k≤10→(y=true↔k=2))∧(1≤k∧k≤10→(s=true↔k=5∨k=10)):=by
 by_cases hk:1≤k∧k≤10
 ·have hk10:k=1∨k=2∨k=3∨k=4∨k=5∨k=6∨k=7∨k=8∨k=9∨k=10:=by omega
  rcases hk10 with rfl | rfl | rfl | rfl | rfl | rfl | rfl | rfl | rfl | rfl <;> exact ⟨_,_,_,_,_,_,_,rfl,by simp,by simp,by simp,by simp,by simp,by simp,by simp⟩
 ·refine ⟨false,false,false,false,false,false,false, ?_,fun h=>absurd h hk,fun h=>absurd h hk,fun h=>absurd h hk,fun h=>absurd h hk,fun h=>absurd h hk,fun h=>absurd h hk,fun h=>absurd h hk⟩
  unfold ofC ofL
  rw [if_neg (by omega),if_neg (by omega),if_neg (by omega),if_neg (by omega),if_neg (by omega),if_neg (by omega),if_neg (by omega)]
  rfl
theorem acP_fine {M:Mem} {x:Ax} (hx:AxOk M x):AcP x.aa↔FineP x:=by
 have h0:chkA x=0↔fineA x=true:=by unfold chkA;split <;> simp_all
 have hl: ∀s∈x.steps.xs,s.list.xs.length=s.list.len:=fun s hs=>(hx.steps.each s hs).list.len
 rw [←chkA_iff hx.gives.len hx.steps.len hl,h0,fineA_iff hl]
theorem gvB_iff {g:Mb} {t:Bool} (h:((!orgW g.org)|| !isT g.digest)=t):t=false↔GvP g:=by
 subst h
 unfold GvP isT
 simp
set_option maxRecDepth 10000 in
theorem refMay_ok (M:Mem) (L:HL) (x:Ax) (hx:AxOk M x) (r:Bool) (hr:r=true↔AcP x.aa):TrQ Tryz.prog 77 [.agg ⟨axC x⟩] M L (.bool r):=by
 have l1:=hx.gives.len
 have l3:=hx.steps.len
 have n1:=hx.gives.2
 have n3:=hx.steps.lt
 have hOf:=refOf_ok M ((0,.cells ⟨axC x⟩ 28 (0,0))::L) x.do_
 obtain ⟨o,au,n,g,t,y,s,hof,f1,f2,f3,f4,f5,f6,f7⟩:=of_ex x.do_
 generalize hi:decide (1≤x.do_∧x.do_≤10)=is at hOf
 have hi:is=true↔1≤x.do_∧x.do_≤10:=by rw [←hi];simp
 have hB:=dB_iff hi f1 f2 f3 f4 f5 f6 f7
 have hD:=dD_iff (t:=t) (x:=x)
 have hr1:r=true↔(dB is o au n g t y s x=false∧dD t x=false)∧(∀m∈x.gives.xs,GvP m)∧(∀m∈x.steps.xs,SpP m.sp):=by
  rw [hr,acP_fine hx,hB,hD]
  constructor
  ·rintro ⟨hk,a2,a3,a4,a5,a6,a7,a8,a9,a10⟩
   exact ⟨⟨⟨hk,a2⟩,a3,a4,a5,fun q=>a8 ((f5 hk).1 q),a6,a7⟩,a9,a10⟩
  ·rintro ⟨⟨⟨hk,a2⟩,a3,a4,a5,a8,a6,a7⟩,a9,a10⟩
   exact ⟨hk,a2,a3,a4,a5,a6,a7,fun q=>a8 ((f5 hk).2 q),a9,a10⟩
 clear hB hD hr f1 f2 f3 f4 f5 f6 f7 hOf
 have hOf: ∀L',TrQ Tryz.prog 78 [.int .u8 x.do_] M L' (.tuple ⟨[.agg ⟨[.bool o,.bool au,.bool n,.bool g,.bool t,.bool y,.bool s]⟩,.bool is]⟩):=by
  intro L'
  have:=refOf_ok M L' x.do_
  rw [hof,show decide (1≤x.do_∧x.do_≤10)=is by rw [Bool.eq_iff_iff,hi];simp] at this
  exact this
 refine Tr.intro 164 Tryz.func77 rfl rfl Tryz.call77 rfl ?_;intro C hC hro
 repeat (first | refine zz ?_ | refine zx fun _=> ?_ | refine runL_q (qt_callF rfl (fun _=>hOf _)) rfl rfl rfl ?_)
 rename_i bx bn
 refine run_cond rfl (fun h=> ?_) (fun h=> ?_)
 ·have hb:dB is o au n g t y s x=true:=h
  have hrf:r=false:=by
   cases r with
   | false=>rfl
   | true=>have:=(hr1.1 rfl).1.1;rw [hb] at this;cases this
  subst hrf
  repeat (first | refine zz ?_ | refine zx fun _=> ?_)
  exact run_ret hC (rs:= [.tmp 2]) rfl (resT rfl resN) (fun _ h=>h.drop.drop) ⟨rfl,rfl,rfl⟩
 have hb:dB is o au n g t y s x=false:=h
 clear h
 repeat (first | refine zz ?_ | refine zx fun _=> ?_ | refine runL_q (qt_callF rfl (fun _=>refOrg_ok _ _ _)) rfl rfl rfl ?_ | refine runL_g rfl rfl (qt_callF rfl (fun _=>refOrg_ok _ _ _)) rfl rfl rfl rfl rfl ?_ | refine runL_g rfl rfl (qt_callF rfl (fun _=>refNm_ok _ _ _)) rfl rfl rfl rfl rfl ?_ | refine runL_g rfl rfl (qt_callF rfl (fun _=>refTx_ok _ _ x.txn)) rfl rfl rfl rfl rfl ?_)
 refine run_cond rfl (fun h=> ?_) (fun h=> ?_)
 ·have hd:dD t x=true:=h
  have hrf:r=false:=by
   cases r with
   | false=>rfl
   | true=>have:=(hr1.1 rfl).1.2;rw [hd] at this;cases this
  subst hrf
  repeat (first | refine zz ?_ | refine zx fun _=> ?_)
  exact run_ret hC (rs:= [.tmp 2]) rfl (resT rfl resN) (fun _ h=>h.drop.drop) ⟨rfl,rfl,rfl⟩
 have hd:dD t x=false:=h
 clear h
 repeat (first | refine zz ?_ | refine zx fun _=> ?_)
 have hr2:r=true↔(∀m∈x.gives.xs,GvP m)∧(∀m∈x.steps.xs,SpP m.sp):=by
  rw [hr1]
  exact ⟨fun q=>q.2,fun q=>⟨⟨hb,hd⟩,q⟩⟩
 clear hr1
 refine run_loopN (fun j σ1 M1 L1=>j≤x.gives.len∧M=M1∧(∀m∈x.gives.xs.take j,GvP m)∧L1=(bn,Obj.cells ⟨[.bool o,.bool au,.bool n,.bool g,.bool t,.bool y,.bool s]⟩ 119 (0,0))::(bx,Obj.cells ⟨axC x⟩ 28 (0,0))::L∧σ1= [(5,.int .i64 (j:Int)),(1,.pointer (some ⟨bx,0,none⟩))]) x.gives.len [(5,.int .i64 ((0:Nat):Int)),(1,.pointer (some ⟨bx,0,none⟩))] ?_ ⟨Nat.zero_le _,rfl,by simp,rfl,rfl⟩ (fun j _ _ _ h=>h.1) ?_
 ·exact ⟨rfl,rfl,trivial⟩
 rintro j _ _ _ ⟨hj,rfl,hall,rfl,rfl⟩ hnext
 repeat (first | refine zz ?_ | refine zx fun _=> ?_)
 refine run_cond rfl (fun h=> ?_) (fun h=> ?_)
 ·have hlt:j<x.gives.len:=by simpa using h
  obtain ⟨b,off,m,hma,hm,hc⟩:=SMb.at_ hx.gives.1 hlt
  have hv:x.gives.v= .slice (some ⟨b,off,none⟩) x.gives.len x.gives.cap:=by rw [←hma];rfl
  have hmp:=hx.pay m (List.mem_of_getElem? hm)
  repeat (first | refine zz ?_ | refine zx fun _=> ?_)
  refine runL_as 133 (.slice (some ⟨b,off,none⟩) x.gives.len x.gives.cap) rfl hv ?_
  repeat (first | refine runL_g rfl rfl (Qt.as (v':=Value.slice (some ⟨b,off,none⟩) x.gives.len x.gives.cap) (ql tok rfl) hv) rfl rfl rfl rfl rfl ?_ | refine zz ?_ | refine zx fun _=> ?_ | refine runL_q (qt_indexN tok rfl rfl rfl rfl (fun _=>by omega)) rfl rfl rfl ?_ | refine runL_g rfl rfl (qt_indexN tok rfl rfl rfl rfl (fun _=>by omega)) rfl rfl rfl rfl rfl ?_ | refine runL_q (qt_ldM tok rfl hc rfl) rfl rfl rfl ?_ | refine runL_g rfl rfl (qt_ldM tok rfl hc rfl) rfl rfl rfl rfl rfl ?_ | refine runL_q (qt_ldM0 tok rfl hc rfl) rfl rfl rfl ?_ | refine runL_g rfl rfl (qt_ldM0 tok rfl hc rfl) rfl rfl rfl rfl rfl ?_ | refine runL_q (qt_callF rfl (fun _=>refOrg_ok _ _ m.org)) rfl rfl rfl ?_ | refine runL_g rfl rfl (qt_callF rfl (fun _=>ref06May_ok _ _ m.digest (by omega))) rfl rfl rfl rfl rfl ?_)
  refine run_cond rfl (fun h=> ?_) (fun h=> ?_)
  ·have hno: ¬GvP m:=fun e=>by have h1:=(gvB_iff h).2 e;cases h1
   have hrf:r=false:=by
    cases r with
    | false=>rfl
    | true=>exact absurd ((hr2.1 rfl).1 m (List.mem_of_getElem? hm)) hno
   subst hrf
   repeat (first | refine zz ?_ | refine zx fun _=> ?_)
   exact run_ret hC (rs:= [.tmp 2]) rfl (resT rfl resN) (fun _ h=>h.drop.drop) ⟨rfl,rfl,rfl⟩
  ·have hgp:GvP m:=(gvB_iff h).1 rfl
   repeat (first | refine zz ?_ | refine zx fun _=> ?_)
   refine run_sub' (hnext _ _ _ ⟨hlt,rfl, ?_,rfl,rfl⟩) ⟨lk_succ rfl (by omega),rfl,trivial⟩
   intro y hy
   rw [take_snoc hm] at hy
   rcases List.mem_append.1 hy with hy | hy
   ·exact hall y hy
   ·rw [List.mem_singleton.1 hy];exact hgp
 have hge:j=x.gives.len:=by simp at h;omega
 rw [hge,List.take_of_length_le (by omega)] at hall
 have hr3:r=true↔ ∀m∈x.steps.xs,SpP m.sp:=by
  rw [hr2]
  exact ⟨fun q=>q.2,fun q=>⟨hall,q⟩⟩
 clear hnext h hr2
 repeat (first | refine zz ?_ | refine zx fun _=> ?_)
 refine run_loopN (fun j σ1 M1 L1=>j≤x.steps.len∧M=M1∧(∀m∈x.steps.xs.take j,SpP m.sp)∧L1=(bn,Obj.cells ⟨[.bool o,.bool au,.bool n,.bool g,.bool t,.bool y,.bool s]⟩ 119 (0,0))::(bx,Obj.cells ⟨axC x⟩ 28 (0,0))::L∧σ1= [(6,.int .i64 (j:Int)),(1,.pointer (some ⟨bx,0,none⟩))]) x.steps.len [(6,.int .i64 ((0:Nat):Int)),(1,.pointer (some ⟨bx,0,none⟩))] ?_ ⟨Nat.zero_le _,rfl,by simp,rfl,rfl⟩ (fun j _ _ _ h=>h.1) ?_
 ·exact ⟨rfl,rfl,trivial⟩
 rintro i _ _ _ ⟨hi,rfl,halls,rfl,rfl⟩ hnext
 repeat (first | refine zz ?_ | refine zx fun _=> ?_)
 refine run_cond rfl (fun h=> ?_) (fun h=> ?_)
 ·have hlt:i<x.steps.len:=by simpa using h
  obtain ⟨b,off,m,hma,hm,hc⟩:=SSr.at_ hx.steps.sl hlt
  have hv:x.steps.v= .slice (some ⟨b,off,none⟩) x.steps.len x.steps.cap:=by rw [←hma];rfl
  have hmo:=hx.steps.each m (List.mem_of_getElem? hm)
  repeat (first | refine zz ?_ | refine zx fun _=> ?_)
  refine runL_as 158 (.slice (some ⟨b,off,none⟩) x.steps.len x.steps.cap) rfl hv ?_
  obtain ⟨rm,hrm⟩: ∃rm:Bool,rm=true↔SpP m.sp:=by
   by_cases hq:SpP m.sp
   ·exact ⟨true,by simp [hq]⟩
   ·exact ⟨false,by simp [hq]⟩
  repeat (first | refine zz ?_ | refine zx fun _=> ?_ | refine runL_q (qt_indexN tok rfl rfl rfl rfl (fun _=>by omega)) rfl rfl rfl ?_ | refine runL_g rfl rfl (qt_indexN tok rfl rfl rfl rfl (fun _=>by omega)) rfl rfl rfl rfl rfl ?_ | refine runL_q (qt_ldM tok rfl hc rfl) rfl rfl rfl ?_ | refine runL_g rfl rfl (qt_ldM tok rfl hc rfl) rfl rfl rfl rfl rfl ?_ | refine runL_q (qt_ldM0 tok rfl hc rfl) rfl rfl rfl ?_ | refine runL_g rfl rfl (qt_ldM0 tok rfl hc rfl) rfl rfl rfl rfl rfl ?_ | refine runL_q (qt_callF rfl (fun _=>refMayStep_ok _ _ m hmo rm hrm)) rfl rfl rfl ?_)
  refine run_cond rfl (fun h=> ?_) (fun h=> ?_)
  ·have hno: ¬SpP m.sp:=fun e=>by have h1:=hrm.2 e;rw [h1] at h;cases h
   have hrf:r=false:=by
    cases r with
    | false=>rfl
    | true=>exact absurd (hr3.1 rfl m (List.mem_of_getElem? hm)) hno
   subst hrf
   repeat (first | refine zz ?_ | refine zx fun _=> ?_)
   exact run_ret hC (rs:= [.tmp 2]) rfl (resT rfl resN) (fun _ h=>h.drop.drop) ⟨rfl,rfl,rfl⟩
  ·have hgp:SpP m.sp:=hrm.1 (by simpa using h)
   repeat (first | refine zz ?_ | refine zx fun _=> ?_)
   refine run_sub' (hnext _ _ _ ⟨hlt,rfl, ?_,rfl,rfl⟩) ⟨lk_succ rfl (by omega),rfl,trivial⟩
   intro y hy
   rw [take_snoc hm] at hy
   rcases List.mem_append.1 hy with hy | hy
   ·exact halls y hy
   ·rw [List.mem_singleton.1 hy];exact hgp
 have hge2:i=x.steps.len:=by simp at h;omega
 rw [hge2,List.take_of_length_le (by omega)] at halls
 have hrt:r=true:=hr3.2 halls
 subst hrt
 repeat (first | refine zz ?_ | refine zx fun _=> ?_)
 exact run_ret hC (rs:= [.tmp 2]) rfl (resT rfl resN) (fun _ h=>h.drop.drop) ⟨rfl,rfl,rfl⟩
theorem stepT_sz {x:Sp} (h:SpP x):(stepT x).size≤1400000:=by
 have h1:=kW_sz x.do_
 have h2:=fsB_sz h (kO x.do_)
 have h3:=tailV_sz h (tail_some h)
 have h4:(kO x.do_).length≤3:=by
  unfold kO
  repeat' split
  all_goals decide
 rw [stepT,app_size,app_size];omega
theorem seqC_sz {c:Nat} : ∀(l:List ByteArray) (f:Bool),(∀t∈l,t.size≤c)→(seqC plusB f l).size≤(c+3)*l.length
 | [],_,_=>Nat.zero_le _
 | x::l,f,h=>by
   have h1:=h x List.mem_cons_self
   have h2:=seqC_sz l false fun t ht=>h t (List.mem_cons_of_mem _ ht)
   have h3:plusB.size=3:=rfl
   have h4:(if f=true then x else plusB++x).size≤c+3:=by
    split
    ·omega
    ·rw [app_size];omega
   rw [seqC,app_size,List.length_cons,Nat.mul_add];omega
theorem rsteps_ok (M:Mem) (L:HL) (hG:G38 M) (S:SSr) (hS:SsOk M S) (hp: ∀x∈S.xs.map Sr.sp,SpP x) (h64:S.xs.length≤64):TrQ Tryz.prog 41 [S.v] M L (.string (stepsT (S.xs.map Sr.sp))):=by
 have hlen:=hS.len
 have hlt6:=hS.lt
 have hst: ∀x∈S.xs,(stepT x.sp).size≤1400000:=fun x hx=>stepT_sz (hp _ (List.mem_map_of_mem hx))
 have hall: ∀j,(seqC plusB true ((S.xs.take j).map fun x=>stepT x.sp)).size≤1400003*j:=fun j=>by
  refine Nat.le_trans (seqC_sz (c:=1400000) _ _ fun t ht=> ?_) ?_
  ·obtain ⟨x,hx,rfl⟩:=List.mem_map.1 ht
   exact hst x (List.mem_of_mem_take hx)
  ·rw [List.length_map,List.length_take]
   exact Nat.mul_le_mul_left _ (Nat.min_le_left _ _)
 have hT:S.xs.map Sr.sp≠ []→stepsT (S.xs.map Sr.sp)=seqC plusB true (S.xs.map fun x=>stepT x.sp):=fun h=>by
  rw [stepsT,if_neg h,List.map_map];rfl
 have hT0:S.xs.map Sr.sp= []→stepsT (S.xs.map Sr.sp)=wNothing:=fun h=>by rw [stepsT,if_pos h]
 have hcall:=fun (L:HL) (x:Sr) (hx:x∈S.xs)=>refStep_ok M L hG x (hS.each x hx) (hp _ (List.mem_map_of_mem hx))
 generalize hR:stepsT (S.xs.map Sr.sp)=R at*
 have hnl:S.xs.map Sr.sp= []↔S.len=0:=by rw [List.map_eq_nil_iff,←List.length_eq_zero_iff,hlen]
 rw [hnl] at hT0
 have hT:S.len≠0→R=seqC plusB true (S.xs.map fun x=>stepT x.sp):=fun h=>hT fun e=>h (hnl.1 e)
 clear hR hnl
 have hcall2: ∀(L:HL) (x:Sr),x∈S.xs→TrQ Tryz.prog 79 [.agg ⟨srC x⟩] M L (.tuple ⟨[.string (stepT x.sp),.agg ⟨srC (bareR x)⟩]⟩):=hcall
 clear hcall
 generalize hf:(fun x:Sr=>stepT x.sp)=f at*
 have hfx: ∀x:Sr,stepT x.sp=f x:=fun x=>by rw [←hf]
 simp only [hfx] at hst hcall2
 clear hfx hf
 refine Tr.intro 32 Tryz.func41 rfl rfl Tryz.call41 rfl ?_;intro C hC hro
 repeat (first | refine yy ?_ | refine yx fun _=> ?_)
 refine run_cond (t:=(S.len:Int)==0) rfl (fun h0=> ?_) (fun h0=> ?_)
 ·have h0':S.len=0:=by simpa using h0
  repeat (first | refine yy ?_ | refine yx fun _=> ?_)
  exact run_ret hC (rs:= [.tmp 2]) rfl (resT rfl resN) (fun _ h=>h) ⟨by rw [hT0 h0'];rfl,rfl,rfl⟩
 have h0':S.len≠0:=by simpa using h0
 repeat (first | refine yy ?_ | refine yx fun _=> ?_)
 refine run_loopN (fun j σ1 M2 L2=>j≤S.len∧M=M2∧L=L2∧σ1= [(4,iv j),(3,.string (seqC plusB true ((S.xs.take j).map f))),(0,S.v)]) S.len [(4,iv 0),(3,.string (seqC plusB true ((S.xs.take 0).map f))),(0,S.v)] ?_ ⟨Nat.zero_le _,rfl,rfl,rfl⟩ (fun j _ _ _ h=>h.1) ?_
 ·exact ⟨rfl,rfl,rfl,trivial⟩
 rintro j _ _ _ ⟨hj,rfl,rfl,rfl⟩ hnext
 repeat (first | refine yy ?_ | refine yx fun _=> ?_)
 refine run_cond (t:=decide ((j:Int)<(S.len:Int))) rfl (fun h2=> ?_) (fun h2=> ?_)
 ·have hlt:j<S.len:=by have:=of_decide_eq_true h2;omega
  obtain ⟨b,off,m,hma,hm,hc⟩:=SSr.at_ hS.sl hlt
  have hv:S.v= .slice (some ⟨b,off,none⟩) S.len S.cap:=by rw [←hma];rfl
  have hmm:=List.mem_of_getElem? hm
  have hmz:=hst m hmm
  have hq:=fun L=>hcall2 L m hmm
  have hlj:=hall j
  have hsn:=seqC_snoc plusB (f m) ((S.xs.take j).map f) true
  rw [←List.map_singleton,←List.map_append,←take_snoc hm] at hsn
  have hp3:plusB.size=3:=rfl
  have hacc:(if j=0 then seqC plusB true ((S.xs.take j).map f)else seqC plusB true ((S.xs.take j).map f)++plusB)++f m=seqC plusB true ((S.xs.take (j+1)).map f):=by
   rw [hsn]
   by_cases h0:j=0
   ·subst h0;rfl
   ·have he:((S.xs.take j).map f).isEmpty=false:=by
     rw [List.isEmpty_eq_false_iff,ne_eq,List.map_eq_nil_iff,List.take_eq_nil_iff]
     rintro (h | h)
     ·exact h0 h
     ·rw [h] at hlen;simp at hlen;omega
    rw [if_neg h0,he,app_assoc];rfl
  generalize bareR m=y at*
  generalize f m=u at*
  refine run_as 0 (.slice (some ⟨b,off,none⟩) S.len S.cap) rfl hv ?_
  repeat (first | refine yy ?_ | refine yx fun _=> ?_ | refine qc (hq _) ?_)
  rename_i b6
  generalize hQ:seqC plusB true ((S.xs.take j).map f)=Q at*
  refine run_condI (fun σ' M' L'=>M=M'∧L'=(b6,.cells ⟨srC y⟩ 60 (0,0))::L∧σ'= [(3,.string (if j=0 then Q else Q++plusB)),(5,.string u),(4,iv j),(0,.slice (some ⟨b,off,none⟩) S.len S.cap)]) (t:=decide ((j:Int)>0)) rfl (fun h hk=> ?_) (fun h hk=> ?_) ?_
  ·have hj0:j≠0:=by have:=of_decide_eq_true h;omega
   have hcc:Q.size+plusB.size<4611686018427387904:=by omega
   refine yy ?_
   refine yy ?_
   refine yy ?_
   refine yy ?_
   refine yy ?_
   exact run_sub' (hk _ _ _ ⟨rfl,rfl,rfl⟩) ⟨by rw [if_neg hj0];rfl,rfl,rfl,rfl,trivial⟩
  ·have hj0:j=0:=by have:=of_decide_eq_false h;omega
   refine yy ?_
   exact run_sub' (hk _ _ _ ⟨rfl,rfl,rfl⟩) ⟨by rw [if_pos hj0];rfl,rfl,rfl,rfl,trivial⟩
  rintro _ _ _ ⟨rfl,rfl,rfl⟩
  have hcc2:(if j=0 then Q else Q++plusB).size+u.size<4611686018427387904:=by
   split
   ·omega
   ·rw [app_size];omega
  repeat (first | refine yy ?_ | refine yx fun _=> ?_ | refine vq ?_ (qt_concat rfl rfl hcc2))
  refine run_mem (fun _ h=>h.drop) ?_
  exact run_sub' (hnext _ _ _ ⟨hlt,rfl,rfl,rfl⟩) ⟨lk_succ rfl (by omega),by rw [←hacc];rfl,by rw [hv];rfl,trivial⟩
 ·have hge:j=S.len:=by have:=of_decide_eq_false h2;omega
  rw [hge,List.take_of_length_le (by omega),←hT h0']
  repeat (first | refine yy ?_ | refine yx fun _=> ?_)
  exact run_ret hC (rs:= [.tmp 2]) rfl (resT rfl resN) (fun _ h=>h) ⟨rfl,rfl,rfl⟩
theorem rmay_ok (M:Mem) (L:HL) (hG:G38 M) (S:SStr) (hS:StOk M S) (hz: ∀x∈S.xs,x.size<1000000) (x:Ax) (hx:AxOk M x) (r:Bool) (hr:r=true↔rollB S.xs=true∧AcP x.aa∧MayL S.xs.length x.aa):TrQ Tryz.prog 37 [S.v,.agg ⟨axC x⟩] M L (.bool r):=by
 have hlen:=hS.len
 have l1:=hx.gives.len
 have l3:=hx.steps.len
 have n1:=hx.gives.2
 have n3:=hx.steps.lt
 have hroll:=fun L=>refRoll_ok M L S hS hz
 obtain ⟨rA,hrA⟩: ∃rA:Bool,rA=true↔AcP x.aa:=by
  by_cases h:AcP x.aa
  ·exact ⟨true,by simp [h]⟩
  ·exact ⟨false,by simp [h]⟩
 have hmay:=fun L=>refMay_ok M L x hx rA hrA
 have hOf0:=fun L=>refOf_ok M L x.do_
 obtain ⟨o,au,n,g,t,y,s,hof,f1,f2,f3,f4,f5,f6,f7⟩:=of_ex x.do_
 have hOf: ∀L',TrQ Tryz.prog 78 [.int .u8 x.do_] M L' (.tuple ⟨[.agg ⟨[.bool o,.bool au,.bool n,.bool g,.bool t,.bool y,.bool s]⟩,.bool (decide (1≤x.do_∧x.do_≤10))]⟩):=by
  intro L'
  have:=hOf0 L'
  rw [hof] at this
  exact this
 clear hOf0 hof
 generalize rollB S.xs=rb at*
 have hlen':(S.xs.length:Int)=(S.len:Int):=by rw [hlen]
 rw [hlen'] at hr
 have hrf: ¬(rb=true∧AcP x.aa∧MayL S.len x.aa)→r=false:=fun h=>by
  cases r with
  | false=>rfl
  | true=>exact absurd (hr.1 rfl) h
 refine Tr.intro 97 Tryz.func37 rfl rfl Tryz.call37 rfl ?_;intro C hC hro
 repeat (first | refine yy ?_ | refine yx fun _=> ?_ | refine qc (hroll _) ?_ | refine gc (hmay _) ?_)
 rename_i b3
 refine run_cond (t:= !rb|| !rA) rfl (fun h=> ?_) (fun h=> ?_)
 ·have hf:=hrf fun q=>by
   have h2:=hrA.2 q.2.1
   rw [q.1,h2] at h;cases h
  repeat (first | refine yy ?_ | refine yx fun _=> ?_)
  exact run_ret hC (rs:= [.tmp 4]) rfl (resT rfl resN) (fun _ h=>h.drop) ⟨by rw [hf];rfl,rfl,rfl⟩
 simp only [Bool.or_eq_false_iff,Bool.not_eq_false'] at h
 obtain ⟨hrb,hra⟩:=h
 have hac:=hrA.1 hra
 have hk:=hac.fit.do_
 have hsp:=hac.fit.steps.2
 have hr2:r=true↔MayL S.len x.aa:=by rw [hr];exact ⟨fun q=>q.2.2,fun q=>⟨hrb,hac,q⟩⟩
 have hrf2: ¬MayL S.len x.aa→r=false:=fun h=>hrf fun q=>h q.2.2
 have hk':1≤x.do_∧x.do_≤10:=hk
 have f1:=f1 hk'
 have f2:=f2 hk'
 have f5:=f5 hk'
 clear hr hrf f3 f4 f6 f7 hmay hroll hrA
 repeat (first | refine yy ?_ | refine yx fun _=> ?_ | refine qc (hOf _) ?_)
 rename_i b5
 refine run_cond (t:=((o&&decide (x.org≥(S.len:Int)))||(au&&decide (x.auditor≥(S.len:Int))))||(t&&decide (x.txn.coord≥(S.len:Int)))) rfl (fun h=> ?_) (fun h=> ?_)
 ·have hf:=hrf2 fun q=>by
   simp only [Bool.or_eq_true,Bool.and_eq_true,decide_eq_true_eq] at h
   rcases h with (⟨h1,h2⟩ | ⟨h1,h2⟩) | ⟨h1,h2⟩
   ·have:=q.org (f1.1 h1);have e:x.aa.org=x.org:=rfl;omega
   ·have:=q.aud (f2.1 h1);have e:x.aa.auditor=x.auditor:=rfl;omega
   ·have:=q.tx (f5.1 h1);have e:x.aa.txn.coord=x.txn.coord:=rfl;omega
  repeat (first | refine yy ?_ | refine yx fun _=> ?_)
  exact run_ret hC (rs:= [.tmp 4]) rfl (resT rfl resN) (fun _ h=>h.drop.drop) ⟨by rw [hf];rfl,rfl,rfl⟩
 have hbase:(x.do_≠4→x.org<(S.len:Int))∧(x.do_=1→x.auditor<(S.len:Int))∧(x.do_=2∨x.do_=9→x.txn.coord<(S.len:Int)):=by
  simp only [Bool.or_eq_false_iff,Bool.and_eq_false_iff,decide_eq_false_iff_not] at h
  obtain ⟨⟨h1,h2⟩,h3⟩:=h
  refine ⟨fun q=> ?_,fun q=> ?_,fun q=> ?_⟩
  ·rcases h1 with h1 | h1
   ·rw [f1.2 q] at h1;cases h1
   ·omega
  ·rcases h2 with h2 | h2
   ·rw [f2.2 q] at h2;cases h2
   ·omega
  ·rcases h3 with h3 | h3
   ·rw [f5.2 q] at h3;cases h3
   ·omega
 clear h f1 f2 f5 hOf
 repeat (first | refine yy ?_ | refine yx fun _=> ?_)
 refine run_loopN (fun j σ1 M1 L1=>j≤x.gives.len∧M=M1∧(∀m∈x.gives.xs.take j,m.org<(S.len:Int))∧L1=(b5,Obj.cells ⟨[.bool o,.bool au,.bool n,.bool g,.bool t,.bool y,.bool s]⟩ 119 (0,0))::(b3,Obj.cells ⟨axC x⟩ 28 (0,0))::L∧σ1= [(7,iv j),(3,pt b3),(0,S.v)]) x.gives.len [(7,iv 0),(3,pt b3),(0,S.v)] ?_ ⟨Nat.zero_le _,rfl,(fun _ h=>by cases h),rfl,rfl⟩ (fun j _ _ _ h=>h.1) ?_
 ·exact ⟨rfl,rfl,rfl,trivial⟩
 rintro j _ _ _ ⟨hj,rfl,hall,rfl,rfl⟩ hnext
 repeat (first | refine yy ?_ | refine yx fun _=> ?_)
 refine run_cond (t:=decide ((j:Int)<(x.gives.len:Int))) rfl (fun h=> ?_) (fun h=> ?_)
 ·have hlt:j<x.gives.len:=by have:=of_decide_eq_true h;omega
  obtain ⟨b,off,m,hma,hm,hc⟩:=SMb.at_ hx.gives.1 hlt
  have hv:x.gives.v= .slice (some ⟨b,off,none⟩) x.gives.len x.gives.cap:=by rw [←hma];rfl
  repeat (first | refine yy ?_ | refine yx fun _=> ?_)
  refine runL_as 65 (.slice (some ⟨b,off,none⟩) x.gives.len x.gives.cap) rfl hv ?_
  repeat (first | refine yy ?_ | refine yx fun _=> ?_)
  refine run_cond (t:=decide (m.org≥(S.len:Int))) rfl (fun h=> ?_) (fun h=> ?_)
  ·have hf:=hrf2 fun q=>by
    have:=q.gives m (List.mem_of_getElem? hm)
    have:=of_decide_eq_true h
    omega
   repeat (first | refine yy ?_ | refine yx fun _=> ?_)
   exact run_ret hC (rs:= [.tmp 4]) rfl (resT rfl resN) (fun _ h=>h.drop.drop) ⟨by rw [hf];rfl,rfl,rfl⟩
  ·have hmo:=of_decide_eq_false h
   repeat (first | refine yy ?_ | refine yx fun _=> ?_)
   refine run_sub' (hnext _ _ _ ⟨hlt,rfl, ?_,rfl,rfl⟩) ⟨lk_succ rfl (by omega),rfl,rfl,trivial⟩
   intro z hz
   rw [take_snoc hm] at hz
   rcases List.mem_append.1 hz with hz | hz
   ·exact hall z hz
   ·rw [List.mem_singleton.1 hz];omega
 have hge:j=x.gives.len:=by have:=of_decide_eq_false h;omega
 rw [hge,List.take_of_length_le (by omega)] at hall
 clear hnext h
 repeat (first | refine yy ?_ | refine yx fun _=> ?_)
 refine run_loopN (fun j σ1 M1 L1=>j≤x.steps.len∧M=M1∧(∀m∈x.steps.xs.take j,bareS m.sp=true)∧L1=(b5,Obj.cells ⟨[.bool o,.bool au,.bool n,.bool g,.bool t,.bool y,.bool s]⟩ 119 (0,0))::(b3,Obj.cells ⟨axC x⟩ 28 (0,0))::L∧σ1= [(8,iv j),(3,pt b3)]) x.steps.len [(8,iv 0),(3,pt b3)] ?_ ⟨Nat.zero_le _,rfl,(fun _ h=>by cases h),rfl,rfl⟩ (fun j _ _ _ h=>h.1) ?_
 ·exact ⟨rfl,rfl,trivial⟩
 rintro i _ _ _ ⟨hi,rfl,halls,rfl,rfl⟩ hnext
 repeat (first | refine yy ?_ | refine yx fun _=> ?_)
 refine run_cond (t:=decide ((i:Int)<(x.steps.len:Int))) rfl (fun h=> ?_) (fun h=> ?_)
 ·have hlt:i<x.steps.len:=by have:=of_decide_eq_true h;omega
  obtain ⟨b,off,m,hma,hm,hc⟩:=SSr.at_ hx.steps.sl hlt
  have hv:x.steps.v= .slice (some ⟨b,off,none⟩) x.steps.len x.steps.cap:=by rw [←hma];rfl
  have hmm:=List.mem_of_getElem? hm
  have hmo:=hx.steps.each m hmm
  have hq:=fun L=>refStep_ok M L hG m hmo (hsp m.sp (List.mem_map_of_mem hmm))
  have hss:=fun L=>refSameStep_ok M L m (bareR m) hmo (bareR_ok hmo)
  have hiff:sameSp m.sp (bareR m).sp=true↔bareS m.sp=true:=by rw [sameSp_iff,bareR_sp,bareP_iff]
  generalize sameSp m.sp (bareR m).sp=rs at*
  generalize bareR m=z at*
  generalize stepT m.sp=u at*
  repeat (first | refine yy ?_ | refine yx fun _=> ?_)
  refine runL_as 82 (.slice (some ⟨b,off,none⟩) x.steps.len x.steps.cap) rfl hv ?_
  repeat (first | refine yy ?_ | refine yx fun _=> ?_ | refine qc (hq _) ?_)
  rename_i b10
  refine dd ?_
  iterate 3 refine yd ?_
  refine pr_as 90 (.slice (some ⟨b,off,none⟩) x.steps.len x.steps.cap) rfl hv ?_
  repeat (first | refine yy ?_ | refine dd ?_ | refine yd ?_ | refine yx fun _=> ?_ | refine pc (hss _) ?_)
  refine run_cond (t:= !rs) rfl (fun h=> ?_) (fun h=> ?_)
  ·have hf:=hrf2 fun q=>by
    have:=hiff.2 (q.steps m.sp (List.mem_map_of_mem hmm))
    rw [this] at h;cases h
   repeat (first | refine yy ?_ | refine yx fun _=> ?_)
   exact run_ret hC (rs:= [.tmp 4]) rfl (resT rfl resN) (fun _ h=>h.drop.drop.drop) ⟨by rw [hf];rfl,rfl,rfl⟩
  ·have hb:bareS m.sp=true:=hiff.1 (by simpa using h)
   repeat (first | refine yy ?_ | refine yx fun _=> ?_)
   refine run_mem (fun _ h=>h.drop) ?_
   refine run_sub' (hnext _ _ _ ⟨hlt,rfl, ?_,rfl,rfl⟩) ⟨lk_succ rfl (by omega),rfl,trivial⟩
   intro z hz
   rw [take_snoc hm] at hz
   rcases List.mem_append.1 hz with hz | hz
   ·exact halls z hz
   ·rw [List.mem_singleton.1 hz];exact hb
 have hge2:i=x.steps.len:=by have:=of_decide_eq_false h;omega
 rw [hge2,List.take_of_length_le (by omega)] at halls
 have ht:r=true:=hr2.2 ⟨hbase.1,hbase.2.1,hbase.2.2,hall,fun z hz=>by
  obtain ⟨m,hm,rfl⟩:=List.mem_map.1 hz
  exact halls m hm⟩
 repeat (first | refine yy ?_ | refine yx fun _=> ?_)
 exact run_ret hC (rs:= [.tmp 4]) rfl (resT rfl resN) (fun _ h=>h.drop.drop) ⟨by rw [ht];rfl,rfl,rfl⟩
theorem rline_ok (M:Mem) (L:HL) (hG:G38 M) (S:SStr) (hS:StOk M S) (hz: ∀x∈S.xs,x.size<1000000) (x:Ax) (hx:AxOk M x):TrQ Tryz.prog 13 [S.v,.agg ⟨axC x⟩] M L (.tuple ⟨[.string (lineA S.xs x.aa).1,.int .i64 (lineA S.xs x.aa).2]⟩):=by
 obtain ⟨hd1,hd2⟩:=line_doc S.xs x.aa
 by_cases hq:rollB S.xs=true∧AcP x.aa∧MayL S.xs.length x.aa
 rotate_left
 ·have hm:=fun L=>rmay_ok M L hG S hS hz x hx false (by simp [hq])
  rw [hd2 hq]
  clear hd1 hd2 hq
  refine Tr.intro 143 Tryz.func13 rfl rfl Tryz.call13 rfl ?_;intro C hC hro
  repeat (first | refine yy ?_ | refine yx fun _=> ?_ | refine run_cond (t:=true) rfl (fun _=> ?_) (fun h=>by cases h) | refine run_cond (t:=false) rfl (fun h=>by cases h) (fun _=> ?_) | refine qc (hm _) ?_)
  exact run_ret hC (rs:= [.tmp 4,.tmp 5]) rfl (resT rfl (resT rfl resN)) (fun _ h=>h.drop) ⟨rfl,rfl,rfl⟩
 have hm:=fun L=>rmay_ok M L hG S hS hz x hx true (by simp [hq])
 rw [hd1 hq]
 clear hd1 hd2
 obtain ⟨_,hac,hml⟩:=hq
 have hfit:=hac.fit
 have hlen:=hS.len
 have hat:=fun {k:Nat} (h:k<S.len)=>SStr.at_ hS.1 h
 have hnat: ∀ {k:Nat} {m:ByteArray},S.xs[k]? =some m→nameT S.xs (k:Int)=m:=fun h=>by rw [nameT,Int.toNat_natCast,h];rfl
 have htx:=fun L (h:(x.aa.do_=2∨x.aa.do_=9))=>rtxn_ok M L hG S hS hz x.txn ⟨hfit.tx.1,hml.tx h⟩ hfit.tx.2.1 hfit.tx.2.2
 have htz:(txnT S.xs x.txn).size≤1000100:=by
  have h1:=dgB_sz hfit.tx.2.1.2
  have h2:=dgB_sz hfit.tx.2.2.2
  have h3:slB.size=1:=rfl
  have h4:(nameT S.xs x.txn.coord).size≤1000000:=by
   unfold nameT
   cases hg:S.xs[x.txn.coord.toNat]? with
   | none=>exact Nat.zero_le _
   | some y=>exact Nat.le_of_lt (hz y (List.mem_of_getElem? hg))
  have e1:x.aa.txn=x.txn:=rfl
  rw [e1] at h1 h2
  simp only [txnT,app_size];omega
 have hst:=fun L=>rsteps_ok M L hG x.steps hx.steps hfit.steps.2 (by have:=hfit.steps.1;simpa [Ax.aa] using this)
 have hsz:(stepsT (x.steps.xs.map Sr.sp)).size≤90000000:=by
  have h6:stepsV x.aa.steps=some (stepsT x.aa.steps):=by rw [stepsV_some hfit.steps.2,if_pos hml.steps]
  exact stepsV_sz hfit.steps.1 hfit.steps.2 h6
 have hnum:=fun L=>rnum_ok M L hG x.n hfit.n.1 (by have:=hfit.n.2;have e:x.aa.n=x.n:=rfl;omega)
 have hnz:=dgB_sz (n:=x.n) (by have:=hfit.n.2;have e:x.aa.n=x.n:=rfl;omega)
 have hdo:=hfit.do_
 have horg:x.aa.do_≠4→ ∃k:Nat,x.org=(k:Int)∧k<S.len:=fun h=>by
  have h1:=hml.org h
  obtain ⟨k,hk⟩:=Int.eq_ofNat_of_zero_le hfit.org.1
  exact ⟨k,hk,by omega⟩
 have hgvs:=hfit.gives
 have hgvo:=hml.gives
 have haud:x.aa.do_=1→ ∃k:Nat,x.auditor=(k:Int)∧k<S.len:=fun h=>by
  have h1:=hml.aud h
  obtain ⟨k,hk⟩:=Int.eq_ofNat_of_zero_le hfit.aud.1
  exact ⟨k,hk,by omega⟩
 clear hac hfit hml
 obtain ⟨sa,sn,sc,xs⟩:=S
 obtain ⟨d,og,au,n,gv,tx,ye,st⟩:=x
 simp only [Ax.aa,SStr.v] at*
 have hd10:d=1∨d=2∨d=3∨d=4∨d=5∨d=6∨d=7∨d=8∨d=9∨d=10:=by omega
 rcases hd10 with rfl | rfl | rfl | rfl | rfl | rfl | rfl | rfl | rfl | rfl
 ·obtain ⟨k,rfl,hk⟩:=horg (by decide)
  obtain ⟨ka,rfl,hka⟩:=haud rfl
  obtain ⟨b,off,nm,rfl,hnm,hc⟩:=hat hk
  obtain ⟨b',off',am,e',ham,hca⟩:=hat hka
  cases e'
  have hnz2:=hz nm (List.mem_of_getElem? hnm)
  have haz:=hz am (List.mem_of_getElem? ham)
  have he:lineT xs ⟨1,(k:Int),(ka:Int),n,gv.xs,tx,ye,st.xs.map Sr.sp⟩=((nm++vBegins)++am)++givesT xs true gv.xs:=by
   rw [show lineT xs ⟨1,(k:Int),(ka:Int),n,gv.xs,tx,ye,st.xs.map Sr.sp⟩=nameT xs (k:Int)++((vBegins++nameT xs (ka:Int))++givesT xs true gv.xs)from rfl,hnat hnm,hnat ham]
   simp only [app_assoc]
  rw [he]
  clear he htx htz hst hsz hnum hnz
  have h12:vBegins.size=12:=rfl
  have hc1:nm.size+vBegins.size<4611686018427387904:=by omega
  have hc2:(nm++vBegins).size+am.size<4611686018427387904:=by rw [app_size];omega
  have hgl:gv.xs.length=gv.len:=hx.gives.len
  have hg6:=hgvs.1
  have hpay: ∀m∈gv.xs,m.digest.size<1000000:=fun m hm=>by
   have h1:=(hgvs.2 m hm).2
   have h2:m.digest.size<1099511627776:=hx.pay m hm
   have:=((mayB_iff (by omega)).1 (by rw [mayB,h1];rfl:mayB m.digest=true)).2
   omega
  have hgo: ∀m∈gv.xs,∃k:Nat,m.org=(k:Int)∧k<sn:=fun m hm=>by
   have h1:=hgvo m hm
   obtain ⟨k,hk⟩:=Int.eq_ofNat_of_zero_le (rIn (hgvs.2 m hm).1).1
   exact ⟨k,hk,by omega⟩
  clear hgvs hgvo
  refine Tr.intro 143 Tryz.func13 rfl rfl Tryz.call13 rfl ?_;intro C hC hro
  repeat (first | refine yy ?_ | refine yx fun _=> ?_ | refine run_cond (t:=true) rfl (fun _=> ?_) (fun h=>by cases h) | refine run_cond (t:=false) rfl (fun h=>by cases h) (fun _=> ?_) | refine qc (hm _) ?_)
  rename_i b3 _ _ _
  generalize hBase:(nm++vBegins)++am=base
  have hbz:base.size≤3000000:=by rw [←hBase,app_size,app_size];omega
  refine run_loopN (fun j σ1 M1 L1=>j≤gv.len∧M=M1∧L1=(b3,Obj.cells ⟨axC ⟨1,(k:Int),(ka:Int),n,gv,tx,ye,st⟩⟩ 28 (0,0))::L∧ ∃s:ByteArray,s=base++givesT xs true (gv.xs.take j)∧s.size≤3000000+2400000*j∧σ1= [(8,iv j),(7,.string s),(3,pt b3),(0,.slice (some ⟨b,off,none⟩) sn sc)]) gv.len [(8,iv 0),(7,.string base),(3,pt b3),(0,.slice (some ⟨b,off,none⟩) sn sc)] ?_ ⟨Nat.zero_le _,rfl,rfl,base,(app_nil _).symm,hbz,rfl⟩ (fun j _ _ _ h=>h.1) ?_
  ·exact ⟨rfl,by rw [←hBase];rfl,rfl,rfl,trivial⟩
  rintro j _ _ _ ⟨hj,rfl,rfl,s,hs,hsz,rfl⟩ hnext
  repeat (first | refine yy ?_ | refine yx fun _=> ?_)
  refine run_cond (t:=decide ((j:Int)<(gv.len:Int))) rfl (fun h=> ?_) (fun h=> ?_)
  ·have hlt:j<gv.len:=by have:=of_decide_eq_true h;omega
   obtain ⟨gb,goff,m,gma,gm,gc⟩:=SMb.at_ hx.gives.1 hlt
   have hv:gv.v= .slice (some ⟨gb,goff,none⟩) gv.len gv.cap:=by
    have gma:gv.a=_:=gma
    rw [←gma];rfl
   have hmm:=List.mem_of_getElem? gm
   obtain ⟨kg,hkg,hkgs⟩:=hgo m hmm
   obtain ⟨b'',off'',gn,e'',hgn,hcg⟩:=hat hkgs
   cases e''
   have hgz:=hz gn (List.mem_of_getElem? hgn)
   have hql:=fun L=>refLine_ok M L m.digest (hpay m hmm)
   have hlz:=lineE_sz (hpay m hmm)
   have hsn:=givesT_snoc xs m (gv.xs.take j) true
   rw [←take_snoc gm,giveT,hkg,hnat hgn] at hsn
   generalize lineE m.digest=e at*
   obtain ⟨mo,md⟩:=m
   simp only at hkg hql hsn
   subst hkg
   have hemp:(true&&(gv.xs.take j).isEmpty)=decide (j=0):=by
    by_cases h0:j=0
    ·subst h0;rfl
    ·rw [decide_eq_false h0,Bool.true_and,List.isEmpty_eq_false_iff,ne_eq,List.take_eq_nil_iff]
     rintro (h | h)
     ·exact h0 h
     ·rw [h] at hgl;simp at hgl;omega
   rw [hemp] at hsn
   repeat (first | refine yy ?_ | refine yx fun _=> ?_)
   refine runL_as 49 (.slice (some ⟨gb,goff,none⟩) gv.len gv.cap) rfl hv ?_
   repeat (first | refine yy ?_ | refine yx fun _=> ?_ | refine qc (hql _) ?_)
   have hcol:colB.size=2:=rfl
   have hsem:semB.size=2:=rfl
   refine run_condI (fun σ' M' L'=>M=M'∧L'=(b3,Obj.cells ⟨axC ⟨1,(k:Int),(ka:Int),n,gv,tx,ye,st⟩⟩ 28 (0,0))::L∧σ'= [(7,.string (s++if decide (j=0)=true then colB else semB)),(9,.string e.1),(8,iv j),(3,pt b3),(0,.slice (some ⟨b,off,none⟩) sn sc)]) (t:=(j:Int)==0) rfl (fun h hk=> ?_) (fun h hk=> ?_) ?_
   ·have hj0:j=0:=by simpa using h
    have hcc:s.size+colB.size<4611686018427387904:=by omega
    iterate 5 refine yy ?_
    exact run_sub' (hk _ _ _ ⟨rfl,rfl,rfl⟩) ⟨by rw [if_pos (decide_eq_true hj0)];rfl,rfl,rfl,rfl,rfl,trivial⟩
   ·have hj0:j≠0:=by simpa using h
    have hcc:s.size+semB.size<4611686018427387904:=by omega
    iterate 5 refine yy ?_
    exact run_sub' (hk _ _ _ ⟨rfl,rfl,rfl⟩) ⟨by rw [if_neg (by simpa using hj0)];rfl,rfl,rfl,rfl,rfl,trivial⟩
   rintro _ _ _ ⟨rfl,rfl,rfl⟩
   generalize hsp:(if decide (j=0)=true then colB else semB)=sp at*
   have hsp2:sp.size=2:=by rw [←hsp];split <;> rfl
   have h1s:sp1.size=1:=rfl
   have q1:(s++sp).size+gn.size<4611686018427387904:=by rw [app_size];omega
   have q2:((s++sp)++gn).size+sp1.size<4611686018427387904:=by rw [app_size,app_size];omega
   have q3:(((s++sp)++gn)++sp1).size+e.1.size<4611686018427387904:=by rw [app_size,app_size,app_size];omega
   have hnew:(((s++sp)++gn)++sp1)++e.1=base++givesT xs true (gv.xs.take (j+1)):=by
    rw [hsn,hs];simp only [app_assoc]
   have hnz3:((((s++sp)++gn)++sp1)++e.1).size≤3000000+2400000*(j+1):=by simp only [app_size];omega
   repeat (first | refine yy ?_ | refine yx fun _=> ?_)
   refine runL_as 66 (.slice (some ⟨gb,goff,none⟩) gv.len gv.cap) rfl hv ?_
   repeat (first | refine yy ?_ | refine yx fun _=> ?_ | refine vq ?_ (qt_concat rfl rfl q1) | refine vq ?_ (qt_concat rfl rfl q2) | refine vq ?_ (qt_concat rfl rfl q3))
   exact run_sub' (hnext _ _ _ ⟨hlt,rfl,rfl,_,hnew,hnz3,rfl⟩) ⟨lk_succ rfl (by omega),rfl,rfl,rfl,trivial⟩
  ·have hge:j=gv.len:=by have:=of_decide_eq_false h;omega
   rw [hge,List.take_of_length_le (by omega)] at hs
   repeat (first | refine yy ?_ | refine yx fun _=> ?_)
   exact run_ret hC (rs:= [.tmp 4,.tmp 5]) rfl (resT rfl (resT rfl resN)) (fun _ h=>h.drop) ⟨by rw [hs,←hBase];rfl,rfl,rfl⟩
 ·obtain ⟨k,rfl,hk⟩:=horg (by decide)
  obtain ⟨b,off,nm,rfl,hnm,hc⟩:=hat hk
  have hnz2:=hz nm (List.mem_of_getElem? hnm)
  have htx:=fun L=>htx L (.inl rfl)
  generalize hT:txnT xs tx=T at*
  cases ye with
  | true=>
    have he:lineT xs ⟨2,(k:Int),au,n,gv.xs,tx,true,st.xs.map Sr.sp⟩=(nm++vYes)++T:=by
     rw [show lineT xs ⟨2,(k:Int),au,n,gv.xs,tx,true,st.xs.map Sr.sp⟩=nameT xs (k:Int)++(vYes++txnT xs tx)from rfl,hnat hnm,hT,app_assoc]
    rw [he]
    clear he
    have hv:vYes.size=13:=rfl
    have hc1:nm.size+vYes.size<4611686018427387904:=by omega
    have hc2:(nm++vYes).size+T.size<4611686018427387904:=by rw [app_size];omega
    refine Tr.intro 143 Tryz.func13 rfl rfl Tryz.call13 rfl ?_;intro C hC hro
    repeat (first | refine yy ?_ | refine yx fun _=> ?_ | refine run_cond (t:=true) rfl (fun _=> ?_) (fun h=>by cases h) | refine run_cond (t:=false) rfl (fun h=>by cases h) (fun _=> ?_) | refine qc (hm _) ?_ | refine qc (htx _) ?_)
    exact run_ret hC (rs:= [.tmp 4,.tmp 5]) rfl (resT rfl (resT rfl resN)) (fun _ h=>h.drop) ⟨rfl,rfl,rfl⟩
  | false=>
    have he:lineT xs ⟨2,(k:Int),au,n,gv.xs,tx,false,st.xs.map Sr.sp⟩=(nm++vNo)++T:=by
     rw [show lineT xs ⟨2,(k:Int),au,n,gv.xs,tx,false,st.xs.map Sr.sp⟩=nameT xs (k:Int)++(vNo++txnT xs tx)from rfl,hnat hnm,hT,app_assoc]
    rw [he]
    clear he
    have hv:vNo.size=12:=rfl
    have hc1:nm.size+vNo.size<4611686018427387904:=by omega
    have hc2:(nm++vNo).size+T.size<4611686018427387904:=by rw [app_size];omega
    refine Tr.intro 143 Tryz.func13 rfl rfl Tryz.call13 rfl ?_;intro C hC hro
    repeat (first | refine yy ?_ | refine yx fun _=> ?_ | refine run_cond (t:=true) rfl (fun _=> ?_) (fun h=>by cases h) | refine run_cond (t:=false) rfl (fun h=>by cases h) (fun _=> ?_) | refine qc (hm _) ?_ | refine qc (htx _) ?_)
    exact run_ret hC (rs:= [.tmp 4,.tmp 5]) rfl (resT rfl (resT rfl resN)) (fun _ h=>h.drop) ⟨rfl,rfl,rfl⟩
 ·obtain ⟨k,rfl,hk⟩:=horg (by decide)
  obtain ⟨b,off,nm,rfl,hnm,hc⟩:=hat hk
  have hnz2:=hz nm (List.mem_of_getElem? hnm)
  have he:lineT xs ⟨3,(k:Int),au,n,gv.xs,tx,ye,st.xs.map Sr.sp⟩=nm++vTicks:=by
   rw [show lineT xs ⟨3,(k:Int),au,n,gv.xs,tx,ye,st.xs.map Sr.sp⟩=nameT xs (k:Int)++vTicks from rfl,hnat hnm]
  rw [he]
  clear he
  have hv:vTicks.size=6:=rfl
  have hc1:nm.size+vTicks.size<4611686018427387904:=by omega
  refine Tr.intro 143 Tryz.func13 rfl rfl Tryz.call13 rfl ?_;intro C hC hro
  repeat (first | refine yy ?_ | refine yx fun _=> ?_ | refine run_cond (t:=true) rfl (fun _=> ?_) (fun h=>by cases h) | refine run_cond (t:=false) rfl (fun h=>by cases h) (fun _=> ?_) | refine qc (hm _) ?_)
  exact run_ret hC (rs:= [.tmp 4,.tmp 5]) rfl (resT rfl (resT rfl resN)) (fun _ h=>h.drop) ⟨rfl,rfl,rfl⟩
 ·have he:lineT xs ⟨4,og,au,n,gv.xs,tx,ye,st.xs.map Sr.sp⟩=(wPost++dgB n)++wComes:=rfl
  rw [he]
  clear he
  have hv:wPost.size=5:=rfl
  have hv2:wComes.size=6:=rfl
  have hc1:wPost.size+(dgB n).size<4611686018427387904:=by omega
  have hc2:(wPost++dgB n).size+wComes.size<4611686018427387904:=by rw [app_size];omega
  refine Tr.intro 143 Tryz.func13 rfl rfl Tryz.call13 rfl ?_;intro C hC hro
  repeat (first | refine yy ?_ | refine yx fun _=> ?_ | refine run_cond (t:=true) rfl (fun _=> ?_) (fun h=>by cases h) | refine run_cond (t:=false) rfl (fun h=>by cases h) (fun _=> ?_) | refine qc (hm _) ?_ | refine qc (hnum _) ?_)
  exact run_ret hC (rs:= [.tmp 4,.tmp 5]) rfl (resT rfl (resT rfl resN)) (fun _ h=>h.drop) ⟨rfl,rfl,rfl⟩
 ·obtain ⟨k,rfl,hk⟩:=horg (by decide)
  obtain ⟨b,off,nm,rfl,hnm,hc⟩:=hat hk
  have hnz2:=hz nm (List.mem_of_getElem? hnm)
  generalize hT:stepsT (st.xs.map Sr.sp)=T at*
  have he:lineT xs ⟨5,(k:Int),au,n,gv.xs,tx,ye,st.xs.map Sr.sp⟩=(nm++vGets)++T:=by
   rw [show lineT xs ⟨5,(k:Int),au,n,gv.xs,tx,ye,st.xs.map Sr.sp⟩=nameT xs (k:Int)++(vGets++stepsT (st.xs.map Sr.sp))from rfl,hnat hnm,hT,app_assoc]
  rw [he]
  clear he
  have hv:vGets.size=6:=rfl
  have hc1:nm.size+vGets.size<4611686018427387904:=by omega
  have hc2:(nm++vGets).size+T.size<4611686018427387904:=by rw [app_size];omega
  refine Tr.intro 143 Tryz.func13 rfl rfl Tryz.call13 rfl ?_;intro C hC hro
  repeat (first | refine yy ?_ | refine yx fun _=> ?_ | refine run_cond (t:=true) rfl (fun _=> ?_) (fun h=>by cases h) | refine run_cond (t:=false) rfl (fun h=>by cases h) (fun _=> ?_) | refine qc (hm _) ?_ | refine qc (hst _) ?_)
  exact run_ret hC (rs:= [.tmp 4,.tmp 5]) rfl (resT rfl (resT rfl resN)) (fun _ h=>h.drop) ⟨rfl,rfl,rfl⟩
 ·obtain ⟨k,rfl,hk⟩:=horg (by decide)
  obtain ⟨b,off,nm,rfl,hnm,hc⟩:=hat hk
  have hnz2:=hz nm (List.mem_of_getElem? hnm)
  have he:lineT xs ⟨6,(k:Int),au,n,gv.xs,tx,ye,st.xs.map Sr.sp⟩=(nm++vStops)++dgB n:=by
   rw [show lineT xs ⟨6,(k:Int),au,n,gv.xs,tx,ye,st.xs.map Sr.sp⟩=nameT xs (k:Int)++(vStops++dgB n)from rfl,hnat hnm,app_assoc]
  rw [he]
  clear he
  have hv:vStops.size=14:=rfl
  have hc1:nm.size+vStops.size<4611686018427387904:=by omega
  have hc2:(nm++vStops).size+(dgB n).size<4611686018427387904:=by rw [app_size];omega
  refine Tr.intro 143 Tryz.func13 rfl rfl Tryz.call13 rfl ?_;intro C hC hro
  repeat (first | refine yy ?_ | refine yx fun _=> ?_ | refine run_cond (t:=true) rfl (fun _=> ?_) (fun h=>by cases h) | refine run_cond (t:=false) rfl (fun h=>by cases h) (fun _=> ?_) | refine qc (hm _) ?_ | refine qc (hnum _) ?_)
  exact run_ret hC (rs:= [.tmp 4,.tmp 5]) rfl (resT rfl (resT rfl resN)) (fun _ h=>h.drop) ⟨rfl,rfl,rfl⟩
 ·obtain ⟨k,rfl,hk⟩:=horg (by decide)
  obtain ⟨b,off,nm,rfl,hnm,hc⟩:=hat hk
  have hnz2:=hz nm (List.mem_of_getElem? hnm)
  have he:lineT xs ⟨7,(k:Int),au,n,gv.xs,tx,ye,st.xs.map Sr.sp⟩=(nm++vCrash)++dgB n:=by
   rw [show lineT xs ⟨7,(k:Int),au,n,gv.xs,tx,ye,st.xs.map Sr.sp⟩=nameT xs (k:Int)++(vCrash++dgB n)from rfl,hnat hnm,app_assoc]
  rw [he]
  clear he
  have hv:vCrash.size=19:=rfl
  have hc1:nm.size+vCrash.size<4611686018427387904:=by omega
  have hc2:(nm++vCrash).size+(dgB n).size<4611686018427387904:=by rw [app_size];omega
  refine Tr.intro 143 Tryz.func13 rfl rfl Tryz.call13 rfl ?_;intro C hC hro
  repeat (first | refine yy ?_ | refine yx fun _=> ?_ | refine run_cond (t:=true) rfl (fun _=> ?_) (fun h=>by cases h) | refine run_cond (t:=false) rfl (fun h=>by cases h) (fun _=> ?_) | refine qc (hm _) ?_ | refine qc (hnum _) ?_)
  exact run_ret hC (rs:= [.tmp 4,.tmp 5]) rfl (resT rfl (resT rfl resN)) (fun _ h=>h.drop) ⟨rfl,rfl,rfl⟩
 ·obtain ⟨k,rfl,hk⟩:=horg (by decide)
  obtain ⟨b,off,nm,rfl,hnm,hc⟩:=hat hk
  have hnz2:=hz nm (List.mem_of_getElem? hnm)
  have he:lineT xs ⟨8,(k:Int),au,n,gv.xs,tx,ye,st.xs.map Sr.sp⟩=nm++vAnew:=by
   rw [show lineT xs ⟨8,(k:Int),au,n,gv.xs,tx,ye,st.xs.map Sr.sp⟩=nameT xs (k:Int)++vAnew from rfl,hnat hnm]
  rw [he]
  clear he
  have hv:vAnew.size=12:=rfl
  have hc1:nm.size+vAnew.size<4611686018427387904:=by omega
  refine Tr.intro 143 Tryz.func13 rfl rfl Tryz.call13 rfl ?_;intro C hC hro
  repeat (first | refine yy ?_ | refine yx fun _=> ?_ | refine run_cond (t:=true) rfl (fun _=> ?_) (fun h=>by cases h) | refine run_cond (t:=false) rfl (fun h=>by cases h) (fun _=> ?_) | refine qc (hm _) ?_)
  exact run_ret hC (rs:= [.tmp 4,.tmp 5]) rfl (resT rfl (resT rfl resN)) (fun _ h=>h.drop) ⟨rfl,rfl,rfl⟩
 ·obtain ⟨k,rfl,hk⟩:=horg (by decide)
  obtain ⟨b,off,nm,rfl,hnm,hc⟩:=hat hk
  have hnz2:=hz nm (List.mem_of_getElem? hnm)
  have htx:=fun L=>htx L (.inr rfl)
  generalize hT:txnT xs tx=T at*
  have he:lineT xs ⟨9,(k:Int),au,n,gv.xs,tx,ye,st.xs.map Sr.sp⟩=(nm++vShows)++T:=by
   rw [show lineT xs ⟨9,(k:Int),au,n,gv.xs,tx,ye,st.xs.map Sr.sp⟩=nameT xs (k:Int)++(vShows++txnT xs tx)from rfl,hnat hnm,hT,app_assoc]
  rw [he]
  clear he
  have hv:vShows.size=7:=rfl
  have hc1:nm.size+vShows.size<4611686018427387904:=by omega
  have hc2:(nm++vShows).size+T.size<4611686018427387904:=by rw [app_size];omega
  refine Tr.intro 143 Tryz.func13 rfl rfl Tryz.call13 rfl ?_;intro C hC hro
  repeat (first | refine yy ?_ | refine yx fun _=> ?_ | refine run_cond (t:=true) rfl (fun _=> ?_) (fun h=>by cases h) | refine run_cond (t:=false) rfl (fun h=>by cases h) (fun _=> ?_) | refine qc (hm _) ?_ | refine qc (htx _) ?_)
  exact run_ret hC (rs:= [.tmp 4,.tmp 5]) rfl (resT rfl (resT rfl resN)) (fun _ h=>h.drop) ⟨rfl,rfl,rfl⟩
 ·obtain ⟨k,rfl,hk⟩:=horg (by decide)
  obtain ⟨b,off,nm,rfl,hnm,hc⟩:=hat hk
  have hnz2:=hz nm (List.mem_of_getElem? hnm)
  generalize hT:stepsT (st.xs.map Sr.sp)=T at*
  have he:lineT xs ⟨10,(k:Int),au,n,gv.xs,tx,ye,st.xs.map Sr.sp⟩=(nm++vJudges)++T:=by
   rw [show lineT xs ⟨10,(k:Int),au,n,gv.xs,tx,ye,st.xs.map Sr.sp⟩=nameT xs (k:Int)++(vJudges++stepsT (st.xs.map Sr.sp))from rfl,hnat hnm,hT,app_assoc]
  rw [he]
  clear he
  have hv:vJudges.size=8:=rfl
  have hc1:nm.size+vJudges.size<4611686018427387904:=by omega
  have hc2:(nm++vJudges).size+T.size<4611686018427387904:=by rw [app_size];omega
  refine Tr.intro 143 Tryz.func13 rfl rfl Tryz.call13 rfl ?_;intro C hC hro
  repeat (first | refine yy ?_ | refine yx fun _=> ?_ | refine run_cond (t:=true) rfl (fun _=> ?_) (fun h=>by cases h) | refine run_cond (t:=false) rfl (fun h=>by cases h) (fun _=> ?_) | refine qc (hm _) ?_ | refine qc (hst _) ?_)
  exact run_ret hC (rs:= [.tmp 4,.tmp 5]) rfl (resT rfl (resT rfl resN)) (fun _ h=>h.drop) ⟨rfl,rfl,rfl⟩
theorem axPay {M:Mem} {ax:Ax} (h:AxOk M ax): ∀m∈ax.aa.gives,m.digest.size<1099511627776:=h.pay
theorem rtpar_ok (M:Mem) (L:HL) (hG:G38 M) (S:SStr) (hS:StOk M S) (hz: ∀x∈S.xs,x.size<1000000) (s:ByteArray) (hs:s.size<900000):Tr Tryz.prog 21 [S.v,.string s] M L (prK (parseA S.xs s) M L):=by
 have hroll:=fun L=>refRoll_ok M L S hS hz
 have hof:=fun L=>rof_ok M L hG S hS s hs
 have hln:=fun (M':Mem) L (hM:M.le M') ax (hax:AxOk M' ax)=>rline_ok M' L (hG.le hM) S (hS.le hM) hz ax hax
 have hpd:=fun (h:rollB S.xs=true) b h1 h2=>parse_doc (names:=S.xs) (s:=s) (b:=b) h h1 h2
 have hpn: ¬rollB S.xs=true→parseA S.xs s=(zA,2):=fun h=>by rw [parseA,if_neg h]
 generalize parseA S.xs s=p at*
 generalize rollB S.xs=rb at*
 obtain ⟨sa,sn,sc,names⟩:=S
 simp only [SStr.v] at*
 refine Tr.intro 31 Tryz.func21 rfl rfl Tryz.call21 rfl ?_;intro C hC hro
 repeat (first | refine yy ?_ | refine yx fun _=> ?_ | refine qc (hroll _) ?_)
 refine run_cond (t:= !rb) rfl (fun h=> ?_) (fun h=> ?_)
 ·obtain rfl:=hpn (by intro h';rw [h'] at h;cases h)
  repeat (first | refine yy ?_ | refine yx fun _=> ?_)
  exact run_ret hC (rs:= [.cell 4 28,.tmp 5]) rfl (rl tok rfl (resT rfl resN)) (fun _ h=>h.drop) ⟨Mem.le_refl _,rfl,⟨0,0,0,0,noG,tz,false,noS⟩,zA_ok _,rfl,rfl⟩
 have hr:rb=true:=by cases rb <;> first | rfl | cases h
 have hpd:=hpd hr
 clear hpn h hr
 repeat (first | refine yy ?_ | refine yx fun _=> ?_ | (refine oc (hof _) ?_;rintro _ M1 L ⟨hM1,rfl,ax,rfl,hax,hact⟩))
 have hp:=hpd ax.aa hact (axPay hax)
 have hl1:=fun L=>hln M1 L hM1 ax hax
 generalize lineA names ax.aa=la at*
 obtain ⟨t,e⟩:=la
 simp only at hp hl1
 repeat (first | refine yy ?_ | refine yx fun _=> ?_ | refine qc (hl1 _) ?_)
 refine run_cond (t:=(e !=0)|| !(t.toList==s.toList)) rfl (fun h=> ?_) (fun h=> ?_)
 ·rw [bytes_beq] at h
  rw [if_neg (by rintro ⟨rfl,rfl⟩;simp at h)] at hp
  subst hp
  repeat (first | refine yy ?_ | refine yx fun _=> ?_)
  exact run_ret hC (rs:= [.cell 4 28,.tmp 5]) rfl (rl tok rfl (resT rfl resN)) (fun _ h=>h.drop.drop) ⟨hM1,rfl,⟨0,0,0,0,noG,tz,false,noS⟩,zA_ok _,rfl,rfl⟩
 ·rw [bytes_beq] at h
  rw [if_pos (by simpa using h)] at hp
  subst hp
  repeat (first | refine yy ?_ | refine yx fun _=> ?_)
  exact run_ret hC (rs:= [.cell 4 28,.tmp 5]) rfl (rl tok rfl (resT rfl resN)) (fun _ h=>h.drop.drop) ⟨hM1,rfl,ax,hax,rfl,rfl⟩
theorem rFlatOne {α:Type} {f:α→List Value} (h: ∀r,∀u∈f r,u.oneCell'=true) (l:List α): ∀u∈(l.map f).flatten,u.oneCell'=true:=by
 intro u hu
 obtain ⟨x,hx,hu⟩:=List.mem_flatten.1 hu
 obtain ⟨y,_,rfl⟩:=List.mem_map.1 hx
 exact h y u hu
structure AxIn (M:Mem) (x:Ax):Prop where
 gives:x.gives.Ok M
 steps:SlM M 7 x.steps.a x.steps.len (x.steps.xs.map srC)
 each: ∀y∈x.steps.xs,SlM M 1 y.list.a y.list.len (y.list.xs.map inC)
structure SaIn (M:Mem) (s:SAx):Prop where
 sl:SlM M 10 s.a s.len (s.xs.map axC)
 each: ∀x∈s.xs,AxIn M x
structure LimA (x:Ax):Prop where
 g:x.gives.len≤20
 s:x.steps.len≤100
 pay: ∀m∈x.gives.xs,m.digest.size≤8192
 step: ∀y∈x.steps.xs,y.text.size≤4096∧y.list.len≤100
def LimL (s:SAx):Prop:=s.len≤60∧ ∀x∈s.xs,LimA x
theorem SaIn.ok {M:Mem} {s:SAx} (h:SaIn M s) (hl:LimL s):SaOk M s:=by
 refine ⟨h.sl,by have:=hl.1;omega,fun x hx=> ?_⟩
 have h1:=h.each x hx
 have h2:=hl.2 x hx
 refine ⟨⟨h1.gives,by have:=h2.g;omega⟩,⟨h1.steps,by have:=h2.s;omega,fun y hy=>⟨⟨h1.each y hy,by have:=(h2.step y hy).2;omega⟩,by have:=(h2.step y hy).1;omega⟩⟩,fun m hm=>by have:=h2.pay m hm;omega⟩
theorem SaIn.le {M M':Mem} {s:SAx} (hm:M.le M') (h:SaIn M s):SaIn M' s:=⟨h.sl.le hm,fun x hx=>⟨(h.each x hx).gives.le hm,(h.each x hx).steps.le hm,fun y hy=>((h.each x hx).each y hy).le hm⟩⟩
theorem AxIn.le {M M':Mem} {x:Ax} (hm:M.le M') (h:AxIn M x):AxIn M' x:=⟨h.gives.le hm,h.steps.le hm,fun y hy=>(h.each y hy).le hm⟩
theorem stOneT (r:ByteArray): ∀u∈stC r,u.oneCell'=true:=by intro u hu;simp [stC] at hu;subst hu;rfl
theorem osCap {e size n:Nat} {v:Value} {xs:List Value} {N:HL} (h:OS e size v n xs N): ∃a c,v= .slice a n c∧n≤c:=by
 rcases h with ⟨rfl,rfl,_,_⟩ | ⟨b,cap,cs,rfl,_,hle,_⟩
 ·exact ⟨none,0,rfl,Nat.le_refl _⟩
 ·exact ⟨_,cap,rfl,hle⟩
theorem rown_ok (M:Mem) (L:HL) (S:SStr) (hS:StOk M S):Tr Tryz.prog 12 [S.v] M L (fun v M' L'=>M.le M'∧L'=L∧ ∃T:SStr,v=T.v∧StOk M' T∧T.xs=S.xs∧T.len≤T.cap):=by
 have hl:=hS.len
 have h6:=hS.2
 have h0:=hS.1
 obtain ⟨sa,sn,sc,xs⟩:=S
 simp only [SStr.v] at*
 refine Tr.intro 5 Tryz.func12 rfl rfl Tryz.call12 rfl ?_;intro C hC hro
 repeat (first | refine zc ?_ | refine vq ?_)
 refine runL_op (st_appendG (xs:= []) (n:=0) (m:=sn) (news:=(xs.map stC).flatten) tok rfl rfl rfl rfl rfl rfl rfl rfl (N:= []) (List.Perm.refl _) (OS.nil _ _) (SrcG.ofSlM h0) (rFlatOne stOneT _) (by omega) (by omega)) rfl rfl rfl ?_
 rintro v7 _ _ ⟨N1,rfl,rfl,hO1⟩
 rw [Nat.zero_add,List.nil_append] at hO1
 obtain ⟨a7,c7,rfl,hle⟩:=osCap hO1
 repeat (first | refine yy ?_ | refine yx fun _=> ?_)
 refine run_retE hC (rs:= [.tmp 2]) rfl (resT rfl resN) fun w hw=> ?_
 obtain ⟨M2,a2,c2,q1,q2,q3,q4⟩:=hw.freezeOS hO1 (by rw [List.length_map];exact hl) (fun c hc=>by obtain ⟨x,_,rfl⟩:=List.mem_map.1 hc;rfl)
 injection q3 with e1 e2 e3
 subst e1 e3
 exact ⟨M2,L,q2,q1,rfl,⟨a7,sn,c7,xs⟩,rfl,⟨q4,h6⟩,rfl,hle⟩
theorem textHears_ok (M:Mem) (L:HL) (hG:G38 M) (A:SStr) (hA:A.Ok M) (hca:A.len≤A.cap) (s:ByteArray):Tr Tryz.prog 6 [A.v,.string s] M L (fun v M' L'=>M.le M'∧L'=L∧v= .bool true):=by
 have hlo1:=fun L=>long_ok M L A hA s
 have hal:A.xs.length=A.len:=by have:=hA.1;simpa using this
 refine Tr.intro 56 Tryz.func6 rfl rfl Tryz.call6 rfl ?_;intro C hC hro
 cases hq1:longA A.xs s with
 | true=>
   rw [hq1] at hlo1
   repeat (first | refine yy ?_ | refine yx fun _=> ?_ | refine qc (hlo1 _) ?_)
   refine run_cond (t:=true) rfl (fun _=> ?_) (fun h=>by cases h)
   repeat (first | refine yy ?_ | refine yx fun _=> ?_ | (refine oc (alive_ok _ _ hG) ?_;rintro _ M2 _ ⟨hM2,rfl,rfl⟩))
   exact run_ret hC (rs:= [.tmp 4]) rfl (resT rfl resN) (fun _ h=>h) ⟨hM2,rfl,rfl⟩
 | false=>
 rw [hq1] at hlo1
 obtain ⟨la1,la2,la3⟩:=longA_no hq1
 have hA:StOk M A:=⟨hA,by omega⟩
 have hza: ∀x∈A.xs,x.size<1000000:=fun x hx=>by have:=la3 x hx;omega
 have hown:=fun L=>rown_ok M L A hA
 repeat (first | refine yy ?_ | refine yx fun _=> ?_ | refine qc (hlo1 _) ?_)
 refine run_cond (t:=false) rfl (fun h=>by cases h) (fun _=> ?_)
 repeat (first | refine yy ?_ | refine yx fun _=> ?_ | (refine oc (hown _) ?_;rintro _ M1 _ ⟨hM1,rfl,T,rfl,hT,hTx,hTc⟩))
 have htp: ∀L,Tr Tryz.prog 18 [T.v,.string s] M1 L (prK (parseA A.xs s) M1 L):=fun L=>by
  have:=tparse_ok M1 L (hG.le hM1) T hT hTc (by rw [hTx];exact hza) s (by omega)
  rwa [hTx] at this
 have hrp:=fun (M':Mem) L (h:M.le M')=>rtpar_ok M' L (hG.le h) A (hA.le h) hza s (by omega)
 have htl:=fun (M':Mem) L (h:M.le M') ax (hax:AxOk M' ax)=>tline_ok M' L (hG.le h) A (hA.le h) hca hza ax hax
 have hpl:(parseA A.xs s).2=0→_:=fun h=>parse_line h
 generalize parseA A.xs s=pa at*
 repeat (first | refine yy ?_ | refine yx fun _=> ?_ | (refine oc (htp _) ?_;rintro _ M2 _ ⟨hM2,rfl,ax,hax,hxa,rfl⟩))
 rename_i b5
 have hM12:=Mem.le_trans hM1 hM2
 repeat (first | refine yy ?_ | refine yx fun _=> ?_ | (refine oc (hrp _ _ hM12) ?_;rintro _ M3 _ ⟨hM3,rfl,ay,hay,hya,rfl⟩))
 rename_i b7
 have hM13:=Mem.le_trans hM12 hM3
 have hax3:=hax.le hM3
 refine runL_as 31 (.bool false) rfl (congrArg Value.bool (show (pa.2 !=pa.2)=false by simp)) ?_
 repeat (first | refine yk ?_ | refine yx fun _=> ?_)
 refine kc (refSameAct_ok _ _ ax ay hax3 hay true ⟨fun _=>hxa.trans hya.symm,fun _=>rfl⟩) ?_
 repeat (first | refine yk ?_ | refine yx fun _=> ?_)
 refine run_cond (t:=false) rfl (fun h=>by cases h) (fun _=> ?_)
 repeat (first | refine yy ?_ | refine yx fun _=> ?_)
 refine run_cond (t:=pa.2 !=0) rfl (fun h=> ?_) (fun h=> ?_)
 ·repeat (first | refine yy ?_ | refine yx fun _=> ?_ | (refine oc (alive_ok _ _ (hG.le hM13)) ?_;rintro _ M5 _ ⟨hM5,rfl,rfl⟩))
  exact run_ret hC (rs:= [.tmp 4]) rfl (resT rfl resN) (fun _ h=>h.drop.drop) ⟨Mem.le_trans hM13 hM5,rfl,rfl⟩
 have hl1:=fun L=>htl M3 L hM13 ax hax3
 rw [hxa,hpl (by simpa using h)] at hl1
 repeat (first | refine yy ?_ | refine yx fun _=> ?_ | refine qc (hl1 _) ?_)
 refine runL_as 48 (.bool true) rfl rfl ?_
 repeat (first | refine yk ?_ | refine yx fun _=> ?_)
 refine runL_as 53 (.bool true) rfl (congrArg Value.bool (by rw [bytes_beq];simp)) ?_
 refine ok (alive_ok _ _ (hG.le hM13)) ?_
 rintro _ M6 _ ⟨hM6,rfl,rfl⟩
 repeat (first | refine yk ?_ | refine yx fun _=> ?_)
 exact run_ret hC (rs:= [.tmp 4]) rfl (resT rfl resN) (fun _ h=>h.drop.drop) ⟨Mem.le_trans hM13 hM6,rfl,rfl⟩
open Go.Chi Go.Lib Go.RowKit
theorem uBool:Tryz.prog.underlying 4=some .bool:=und_ok tok (t:=4) rfl
theorem uStr:Tryz.prog.underlying 9=some .string:=und_ok tok (t:=9) rfl
section
variable {H:Type} {enc:TypeId×Value→H} {W:World} {cs:List Value}
theorem rd_st (h:RD enc Tryz.prog W 9 cs): ∃s:ByteArray,cs=stC s∧True:=by
 obtain ⟨b,rfl,_⟩:=h.string uStr
 exact ⟨b,rfl,trivial⟩
theorem rd_sstr (h:RD enc Tryz.prog W 22 cs): ∃s:SStr,cs= [s.v]∧s.Ok (memOf W)∧s.len≤s.cap:=by
 obtain ⟨a,len,cap,ls,rfl,hlc,_,hs,hel⟩:=h.slice (und_ok tok (t:=22) rfl) (size:=1) (by kernel_rfl) (by omega)
 obtain ⟨xs,rfl,_⟩:=list_of (f:=stC) (Q:=fun _=>True) fun c hc=>rd_st (hel c hc)
 exact ⟨⟨a,len,cap,xs⟩,rfl,hs,hlc⟩
theorem varM_of {n:String} {g:Nat} {c:Array Value} (hg:Tryz.prog.globalNamed n=some g) (h:W.var? Tryz.prog n=some c):VarM (memOf W) g c.toList:=by
 unfold World.var? at h
 rw [hg,Option.bind_some] at h
 split at h
 ·rename_i c1 t1 f1 he
  cases h
  exact ⟨t1,f1,he⟩
 ·cases h
theorem g38_of (h:laidMet Tryz.prog [("math/bits.deBruijn32tab",Rows.laid_math_bits_deBruijn32tab),("math/bits.deBruijn64tab",Rows.laid_math_bits_deBruijn64tab),("internal/strconv.uint64pow10",Rows.laid_internal_strconv_uint64pow10),("strconv.ErrRange",Rows.laid_strconv_ErrRange),("strconv.ErrSyntax",Rows.laid_strconv_ErrSyntax)] W):G38 (memOf W):=by
 obtain ⟨ps,⟨g0,t0,c0,f0,p0,q0,hg0,ht0,hv0,hd0,⟨g1,t1,c1,f1,p1,q1,hg1,ht1,hv1,hd1,⟨g2,t2,c2,f2,p2,q2,hg2,ht2,hv2,hd2,⟨g3,t3,c3,f3,p3,q3,hg3,ht3,hv3,hd3,⟨g4,t4,c4,f4,p4,q4,hg4,ht4,hv4,hd4,_,_⟩,_⟩,_⟩,_⟩,_⟩,_⟩:=h
 obtain rfl:=Option.some.inj (gPow.symm.trans hg2)
 obtain rfl:=Option.some.inj (gRng.symm.trans hg3)
 obtain rfl:=Option.some.inj (gSyn.symm.trans hg4)
 obtain rfl:=Option.some.inj ((show (Tryz.prog.globals[(1:Nat)]?).map (·.type)=some 213 by kernel_rfl).symm.trans ht2)
 obtain rfl:=Option.some.inj ((show (Tryz.prog.globals[(3:Nat)]?).map (·.type)=some 102 by kernel_rfl).symm.trans ht3)
 obtain rfl:=Option.some.inj ((show (Tryz.prog.globals[(2:Nat)]?).map (·.type)=some 102 by kernel_rfl).symm.trans ht4)
 obtain ⟨ms,hms⟩:=uErr
 obtain ⟨_,u3,v3,e3,_⟩:=iface_of_trod hms hd3
 obtain ⟨_,u4,v4,e4,_⟩:=iface_of_trod hms hd4
 have e2:=cells_of_tab (zs:=pow10Tab) (k:= .u64) (e:=171) (n:=20) (by kernel_rfl) (by kernel_rfl) (by kernel_rfl) (by kernel_rfl) hd2
 have m2:=varM_of hg2 hv2
 have m3:=varM_of hg3 hv3
 have m4:=varM_of hg4 hv4
 rw [e2] at m2
 rw [e3] at m3
 rw [e4] at m4
 exact ⟨m2,⟨u4,v4,m4⟩,⟨u3,v3,m3⟩⟩
end
noncomputable def low38:Nat:=(World.holding Tryz.prog default ⟨#[],#[],[]⟩).heap.size
def putC (cs:List Value):Obj→Obj
 | .cells _ t frozen=> .cells ⟨cs⟩ t frozen
 | o=>o
noncomputable def laidW (os:Os):World:=
 let w0:=World.holding Tryz.prog os ⟨#[.cells #[.string ⟨#[118,97,108,117,101,32,111,117,116,32,111,102,32,114,97,110,103,101]⟩] 259,.cells #[.string ⟨#[105,110,118,97,108,105,100,32,115,121,110,116,97,120]⟩] 259],#[],[]⟩
 { w0 with heap:=((((w0.heap.modify 4 (putC ([0,1,28,2,29,14,24,3,30,22,20,15,25,17,4,8,31,27,13,23,21,19,16,7,26,12,18,6,11,5,10,9].map (Value.int .u8)))).modify 5 (putC ([0,1,56,2,57,49,28,3,61,58,42,50,38,29,17,4,62,47,59,36,45,43,51,22,53,39,33,30,24,18,12,5,63,55,48,27,60,41,37,16,46,35,44,21,52,32,23,11,54,26,40,15,34,20,31,10,25,14,19,9,13,8,7,6].map (Value.int .u8)))).modify 1 (putC ([1,10,100,1000,10000,100000,1000000,10000000,100000000,1000000000,10000000000,100000000000,1000000000000,10000000000000,100000000000000,1000000000000000,10000000000000000,100000000000000000,1000000000000000000,10000000000000000000].map (Value.int .u64)))).modify 3 (putC [.iface 257 (.pointer (some ⟨low38,0,none⟩))])).modify 2 (putC [.iface 257 (.pointer (some ⟨low38+1,0,none⟩))]) }
theorem laidW_met (os:Os) (args:Array Value):laidMet Tryz.prog Rows.textLooksRow.laid ((laidW os).forCall (fun _ _=>0) ⟨#[],args,[]⟩).memory:=
 laidMet_of_run' 8 (by kernel_rfl) (by kernel_rfl)
theorem own:ownKnob Tryz.prog.godebug=none:=by kernel_rfl
theorem laid:laidOutB Tryz.prog=true:=by kernel_rfl
end Go.Proofs.YtladcmfbkiogbaaGreatDoor
