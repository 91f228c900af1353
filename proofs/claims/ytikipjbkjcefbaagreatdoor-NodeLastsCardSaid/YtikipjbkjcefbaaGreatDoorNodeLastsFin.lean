/-
  Proved: for every input the law 'NodeLasts' returns true, and each argument reads behind the call as it read before. No condition.
-/
import Derived.Test.YtikipjbkjcefbaaGreatDoorNodeLastsZ7
set_option maxHeartbeats 40000000
namespace Go.Proofs.YtikipjbkjcefbaaGreatDoor.nodeLasts
open Go.ChangeShapes Go.WideShapes Go.ChangeAt Go.RowKit
set_option linter.unusedVariables false
theorem ux:ownKnob Tryz.prog.godebug=none:=by kernel_rfl
theorem ag8:laidOutB Tryz.prog=true:=by kernel_rfl
set_option maxRecDepth 100000 in
theorem aeF(H:Type)(enc:TypeId×Value->H)(W:World)(gM:Nat)(args:Array Value)(ds gs:List (DataW H))(IQ:List MemPlace)
  (ak0:∀(j:Nat) t v,Tryz.f6.params[j]?=some t->args[j]?=some v->Value.okWide Tryz.prog W .any gM t v)
  (hL:laidMetH Tryz.prog Rows.nodeLastsRow.laid W)
  (hW:DataW.Whole enc Tryz.prog Tryz.f6.params.toList Rows.nodeLastsSpec.vars false W args.toList ds gs IQ):
  Calls Tryz.prog 6 args W λe W'=>∃v,e= .returned v/\Rows.nodeLastsSpec.post enc Tryz.prog Tryz.f6 false true false false W args v W':=by
 have hW':=hW;obtain⟨p,q,hA0,hV,rfl,hfz,NR⟩:=hW;have hA:DataW.TrodAll enc Tryz.prog W 0 (λ_=>true) true Tryz.f6.params.toList args.toList ds p:=hA0;rw[Tryz.params6]at hA ak0;obtain⟨v0,vs0,d0,ds0,p0,q0,EP,rfl,rfl,h0,r0⟩:=trodAll_cons hA;obtain⟨v1,vs1,d1,ds1,p1,q1,rfl,rfl,rfl,h1,r1⟩:=trodAll_cons r0;obtain⟨v2,vs2,d2,ds2,p2,q2,rfl,rfl,rfl,h2,r2⟩:=trodAll_cons r1;obtain⟨rfl,rfl,rfl⟩:=trodAll_nil r2
 obtain rfl:args= #[v0,v1,v2]:=by cases args;simp_all
 obtain⟨rfl,rfl⟩:=trodVars_none hV;have D0:=E.Qc (λ_=>rfl) (sh:=(.int .i64)) (by kernel_rfl) h0;obtain⟨c0,o0⟩:=E.afX (v:=v0) Tryz.underlying3 (ak0 0 _ _ rfl rfl);rw[c0]at D0;have D1:=E.Qc (λ_=>rfl) (sh:=(.slice E.Y.Ws)) (by kernel_rfl) h1;obtain⟨c1,o1⟩:=E.X6 (v:=v1) Tryz.underlying22 (ak0 1 _ _ rfl rfl);rw[c1]at D1;have D2:=E.Qc (λ_=>rfl) (sh:=(.slice (.int .i64))) (by kernel_rfl) h2;obtain⟨c2,o2⟩:=E.X6 (v:=v2) Tryz.underlying34 (ak0 2 _ _ rfl rfl);rw[c2]at D2;obtain⟨n0,e0,hn0⟩:=D0;obtain⟨w1,l1,e1,wz,hc1⟩:=E.Y.aeB D1;obtain⟨w2,l2,e2,Td,hI2,hc2⟩:=E.Y.alO D2;simp only[rU,and_true]at e0 e1 e2;subst e0;subst e1;subst e2;have hn0:=E.Tw hn0;refine(E.bi.law W (args:=[(.v (.int .i64 n0)),(.v v1),(.v v2)]) ?_ (E.Y.afm (E.Y.ad5 hL) wz hc1 hn0 Td hc2 hI2)).mono λe W' ⟨he,hg⟩=>?_
 ·intro x hx
  simp only[aU,fG,rH]at hx;rcases hx with rfl|rfl|rfl
  ·first|exact o0|rfl|trivial
  ·first|exact o1|rfl|trivial
  ·first|exact o2|rfl|trivial
 subst he;exact⟨_,rfl,E.ag6 ag8 rfl rfl (by kernel_rfl) Tryz.underlying4 (by kernel_rfl) hW' hg⟩
set_option maxRecDepth 100000 in
theorem akR(os:Os)(afD:os.Started)(H:Type)(enc:TypeId×Value->H):
  ReturnsInHanded {} Tryz.checked os 6 .any (λw args=>(Rows.nodeLastsSpec.pre enc Tryz.prog Tryz.f6 Rows.nodeLastsRow.domain false w args/\laidMetH Tryz.prog Rows.nodeLastsRow.laid w)/\sizedMet enc Tryz.prog Tryz.f6 (OpenSpec.ofChange Rows.nodeLastsSpec) false w args)
   (Rows.nodeLastsSpec.post enc Tryz.prog Tryz.f6 false true false false):=by
 refine returnsInHanded_of_change_and (C:=Tryz.checked) (X:=λw _=>laidMetH Tryz.prog Rows.nodeLastsRow.laid w) (λ_ _ _ hh h=>h.of_heap hh) ux afD (by as_aux_lemma=>kernel_rfl) Tryz.func6
  (ChangeSpec.witness_shaped (enc:=enc) (C:=Tryz.checked) (os:=os) (X:=λw _=>laidMetH Tryz.prog Rows.nodeLastsRow.laid w) false (World.laidAll Tryz.prog os Rows.nodeLastsRow.laid) #[.int .i64 0,.slice none 0 0,.slice none 0 0] 8 (World.laidAll_os _ _ _)
   (World.shaped_of_ZipB (by as_aux_lemma=>kernel_rfl) (by as_aux_lemma=>kernel_rfl)) (by as_aux_lemma=>kernel_rfl) (by as_aux_lemma=>kernel_rfl) (by as_aux_lemma=>kernel_rfl)
   (by rw[MakeChecks.laidMetH_plain _ _ _ (by as_aux_lemma=>kernel_rfl)];exact laidMet_laidAll _ (by as_aux_lemma=>kernel_rfl) (by as_aux_lemma=>kernel_rfl))) ?_
 intro W gM args ds gs IQ aph hW hc _ hL _;exact aeF H enc W gM args ds gs IQ aph hL hW
set_option maxRecDepth 100000 in
theorem jF:Rows.NodeLastsSaid:=
 OpenClaim.holds_of_wide 6 Tryz.f6 rfl rfl rfl rfl rfl rfl rfl ⟨rfl,rfl,rfl,rfl,rfl⟩ rfl rfl rfl rfl rfl (by as_aux_lemma=>kernel_rfl) Tryz.func6 jQ
  (ah (by as_aux_lemma=>kernel_rfl)) (by unfold Func.isWrapper;first|(rw[aC (by as_aux_lemma=>decide+kernel)];kernel_rfl)|(rw[if_neg (by as_aux_lemma=>decide+kernel)];exact⟨rfl,rfl⟩))
  (λos afD H enc _=>akR os afD H enc)
set_option maxRecDepth 100000 in
theorem proved:Rows.NodeLastsCardSaid:=
 Claim7.holds_tied_plain_at .later [] _ true _ true jF (λ_ h=>by cases h) (by as_aux_lemma=>kernel_rfl) (λ_ h=>by cases h) nodeLasts_row_tie rfl ⟨rfl,rfl⟩ (by as_aux_lemma=>kernel_rfl) rfl
  (λf fn hf hfn=>by
   obtain rfl:f=6:=eL ((show Tryz.prog.funcNamed "maund/maundlaw31.NodeLasts" =some 6 by as_aux_lemma=>kernel_rfl).symm.trans hf) |>.symm
   obtain rfl:fn=Tryz.f6:=(eL (Tryz.func6.symm.trans hfn)).symm
   exact⟨by as_aux_lemma=>kernel_rfl,λj t ht=>by
    rw[Tryz.params6]at ht;have hm:t∈[3,22,34]:=by simpa using Array.mem_of_getElem? ht
    have cM:([3,22,34].all λu=>!Tryz.prog.wantsStandIn u)=true:=by as_aux_lemma=>kernel_rfl
    exact(show Tryz.prog.wantsStandIn t=false by simpa using bL.1 cM t hm)⟩)
  (ZQ rfl ah2)
end Go.Proofs.YtikipjbkjcefbaaGreatDoor.nodeLasts
