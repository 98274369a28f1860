/-
  The program's Lines and Read are the document's; what was told is read as it was, and what was read is told as it was heard: TextRows returns true for any roll, any acts and any text. Condition: the five listed variables of Go's library hold what its text lays in them (tied by the card).
-/
import Derived.Test.YtladcmfbkiogbaaGreatDoorBRA
import Derived.Test.YtladcmfbkiogbaaGreatDoorBRF
import Derived.Test.YtladcmfbkiogbaaGreatDoorTie
import Derived.Test.YtladcmfbkiogbaaGreatDoorCards
import Derived.JoinedAt
import Derived.Carry
import Derived.ChangeVars
import Derived.LaidLaws
import Derived.LaidHandle
import Derived.Stop.Joined
import Derived.SevenTiedAt
set_option linter.all false
namespace Go.Proofs.YtladcmfbkiogbaaGreatDoor
open Go.Chi Go.ChangeShapes Go.WideShapes Go.ChangeAt Go.RowKit
set_option maxRecDepth 100000 in
theorem textRows_lifted (os:Os) (started:os.Started) (H:Type) (enc:TypeId×Value→H):
 ReturnsInHanded {} Tryz.checked os 7 .any (fun w args=>(Rows.textRowsSpec.pre enc Tryz.prog Tryz.f7 [] false w args∧laidMetH Tryz.prog Rows.textRowsRow.laid w)∧sizedMet enc Tryz.prog Tryz.f7 (OpenSpec.ofChange Rows.textRowsSpec) false w args) (Rows.textRowsSpec.post enc Tryz.prog Tryz.f7 false Rows.textRowsRow.fresh Rows.textRowsRow.handsOn Rows.textRowsRow.again):=by
 refine returnsInHanded_of_change_and (C:=Tryz.checked) (X:=fun w _=>laidMetH Tryz.prog Rows.textRowsRow.laid w) (fun _ _ _ hh h=>h.of_heap hh) own started (by kernel_rfl) Tryz.func7
  (ChangeSpec.witness_at (enc:=enc) (C:=Tryz.checked) (os:=os) (X:=fun w _=>laidMetH Tryz.prog Rows.textRowsRow.laid w) false (laidW os) #[.slice none 0 0,.slice none 0 0,.string ⟨#[]⟩] 8 rfl (by kernel_rfl) (by kernel_rfl) (by kernel_rfl) (by kernel_rfl) (by kernel_rfl) (laidW_met os _)) ?_
 intro W base args ds gs before hval hW _ _ hL _
 have hG:=g38_of hL
 have hW':=hW
 obtain ⟨p,q,hA0,hV,rfl,hfz,hnd⟩:=hW
 have hA:DataW.TrodAll enc Tryz.prog W 0 (fun _=>true) true Tryz.f7.params.toList args.toList ds p:=hA0
 have hp:Tryz.f7.params= #[22,34,9]:=by kernel_rfl
 have hval: ∀(j:Nat) t v,Tryz.f7.params[j]? =some t→args[j]? =some v→Value.okWide Tryz.prog W .any base t v:=hval
 rw [hp] at hA hval
 obtain ⟨v0,vs0,d0,es0,p0,q0,hv0,hd0,hp0,h0,hr0⟩:=ChangeShapes.trodAll_cons hA
 obtain ⟨v1,vs1,d1,es1,p1,q1,hv1,hd1,hp1,h1,hr1⟩:=ChangeShapes.trodAll_cons hr0
 obtain ⟨v2,vs2,d2,es2,p2,q2,hv2,hd2,hp2,h2,hr2⟩:=ChangeShapes.trodAll_cons hr1
 obtain ⟨hv3,hd3,hp3⟩:=trodAll_nil hr2
 have hargs:args= #[v0,v1,v2]:=by
  apply Array.ext'
  rw [hv0,hv1,hv2,hv3]
 subst hargs
 have hds:ds= [d0,d1,d2]:=by rw [hd0,hd1,hd2,hd3]
 subst hds
 obtain ⟨sa0,sl0,sc0,rfl⟩:=okWide_slice (und_ok tok (t:=22) rfl) (hval 0 _ v0 rfl rfl)
 obtain ⟨fu0,hf0⟩:=h0
 obtain ⟨s0,c0,g0,k0⟩:=rd_sstr ⟨fu0,_,hf0⟩
 have e0:Value.slice sa0 sl0 sc0=s0.v:=by simpa [Value.cells] using c0
 obtain ⟨sa1,sl1,sc1,rfl⟩:=okWide_slice (und_ok tok (t:=34) rfl) (hval 1 _ v1 rfl rfl)
 obtain ⟨fu1,hf1⟩:=h1
 obtain ⟨s1,c1,g1⟩:=rd_sax ⟨fu1,_,hf1⟩
 have e1:Value.slice sa1 sl1 sc1=s1.v:=by simpa [Value.cells] using c1
 obtain ⟨a2,rfl,_,_,w2⟩:=ChangeMaps.open_string uStr (hval 2 _ v2 rfl rfl) h2
 refine law_calls (tb:=4) hW' rfl rfl (by kernel_rfl) uBool laid (fun t ht=> ?_) ?_
 ·have e:Tryz.f7.params.toList= [22,34,9]:=by kernel_rfl
  rw [e] at ht
  simp only [List.mem_cons,List.not_mem_nil,or_false] at ht
  rcases ht with rfl | rfl | rfl
  ·exact ⟨by kernel_rfl,of_decide_eq_true (by kernel_rfl)⟩
  ·exact ⟨by kernel_rfl,of_decide_eq_true (by kernel_rfl)⟩
  ·exact ⟨by kernel_rfl,of_decide_eq_true (by kernel_rfl)⟩
 ·rw [e0,e1]
  exact ((textRows_ok (memOf W) [] hG s0 g0 k0 s1 g1 a2).mono fun v M' L' ⟨h1,h2,h3⟩=>(⟨h3,h1,h2⟩:v=_∧(memOf W).le M'∧_)).mono fun v M' L' ⟨h1,h2,_⟩=>⟨h1,h2⟩
theorem textRows_holds:Rows.TextRowsSaid:=
 OpenClaim.holds_of_wide 7 Tryz.f7 rfl rfl rfl rfl rfl rfl rfl ⟨rfl,rfl,rfl,rfl,rfl⟩ rfl rfl rfl rfl rfl (by kernel_rfl) Tryz.func7 (by kernel_rfl)
  (of_decide_eq_true (by kernel_rfl)) (by unfold Func.isWrapper;first | (rw [if_pos (by decide+kernel)];kernel_rfl) | (rw [if_neg (by decide+kernel)];exact ⟨rfl,rfl⟩))
  (fun os started H enc _=>textRows_lifted os started H enc)
theorem textRowsCard_holds:Rows.TextRowsCardSaid:=
 Claim7.holds_tied_plain_at .later [] [.data,.data,.data,.sentinel,.sentinel] true (true,"faa735eace442e5b1b327ebc338c3f301e038a1d9b7e86c47b1ca0aa8ecbf3b6") true
  textRows_holds (fun _ h=>by cases h) (by kernel_rfl) (fun _ h=>by cases h) textRows_row_tie rfl ⟨rfl,rfl⟩ (by kernel_rfl) rfl
  (fun f fn hf hfn=>by
    obtain rfl:f=7:=Option.some.inj ((show Tryz.prog.funcNamed "chirograph/chirographlaw38.TextRows" =some 7 by kernel_rfl).symm.trans hf) |>.symm
    obtain rfl:fn=Tryz.f7:=(Option.some.inj (Tryz.func7.symm.trans hfn)).symm
    exact ⟨by kernel_rfl,fun j t ht=>by
     rw [show Tryz.f7.params= #[22,34,9] by kernel_rfl] at ht
     rcases j with _ | _ | _ | j
     ·obtain rfl:22=t:=by simpa using ht
      exact (show Tryz.prog.wantsStandIn 22=false by kernel_rfl)
     ·obtain rfl:34=t:=by simpa using ht
      exact (show Tryz.prog.wantsStandIn 34=false by kernel_rfl)
     ·obtain rfl:9=t:=by simpa using ht
      exact (show Tryz.prog.wantsStandIn 9=false by kernel_rfl)
     ·simp at ht⟩)
  (by kernel_rfl)
#print axioms textRowsCard_holds
end Go.Proofs.YtladcmfbkiogbaaGreatDoor
