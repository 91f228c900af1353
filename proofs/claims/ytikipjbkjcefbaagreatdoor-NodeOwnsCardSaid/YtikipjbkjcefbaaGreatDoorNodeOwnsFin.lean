/-
  Proved: for every input the law 'NodeOwns' returns true, and each argument reads behind the call as it read before. No condition.
-/
import Derived.Test.YtikipjbkjcefbaaGreatDoorNodeOwnsZ7
set_option maxHeartbeats 40000000
namespace Go.Proofs.YtikipjbkjcefbaaGreatDoor.nodeOwns
open Go.ChangeShapes Go.WideShapes Go.ChangeAt Go.RowKit
set_option linter.unusedVariables false
theorem ux:ownKnob Tryz.prog.godebug=none:=by kernel_rfl
theorem ag8:laidOutB Tryz.prog=true:=by kernel_rfl
set_option maxRecDepth 100000 in
theorem aeF(H:Type)(enc:TypeId×Value->H)(W:World)(gM:Nat)(args:Array Value)(ds gs:List (DataW H))(IQ:List MemPlace)
  (ak0:∀(j:Nat) t v,Tryz.f5.params[j]?=some t->args[j]?=some v->Value.okWide Tryz.prog W .any gM t v)
  (hL:laidMetH Tryz.prog Rows.nodeOwnsRow.laid W)
  (hW:DataW.Whole enc Tryz.prog Tryz.f5.params.toList Rows.nodeOwnsSpec.vars false W args.toList ds gs IQ):
  Calls Tryz.prog 5 args W λe W'=>∃v,e= .returned v/\Rows.nodeOwnsSpec.post enc Tryz.prog Tryz.f5 false true false false W args v W':=by
 have hW':=hW;obtain⟨p,q,hA0,hV,rfl,hfz,NR⟩:=hW;have hA:DataW.TrodAll enc Tryz.prog W 0 (λ_=>true) true Tryz.f5.params.toList args.toList ds p:=hA0;rw[Tryz.params5]at hA ak0;obtain⟨v0,vs0,d0,ds0,p0,q0,EP,rfl,rfl,h0,r0⟩:=trodAll_cons hA;obtain⟨v1,vs1,d1,ds1,p1,q1,rfl,rfl,rfl,h1,r1⟩:=trodAll_cons r0;obtain⟨rfl,rfl,rfl⟩:=trodAll_nil r1
 obtain rfl:args= #[v0,v1]:=by cases args;simp_all
 obtain⟨rfl,rfl⟩:=trodVars_none hV;have D0:=E.Qc (λ_=>rfl) (sh:=(.int .i64)) (by kernel_rfl) h0;obtain⟨c0,o0⟩:=E.afX (v:=v0) Tryz.underlying3 (ak0 0 _ _ rfl rfl);rw[c0]at D0;have D1:=E.Qc (λ_=>rfl) (sh:=(.slice E.Y.Ws)) (by kernel_rfl) h1;obtain⟨c1,o1⟩:=E.X6 (v:=v1) Tryz.underlying22 (ak0 1 _ _ rfl rfl);rw[c1]at D1;obtain⟨n0,e0,hn0⟩:=D0;obtain⟨w1,l1,e1,wz,hc1⟩:=E.Y.aeB D1;simp only[rU,and_true]at e0 e1;subst e0;subst e1;have hn0:=E.Tw hn0;refine(E.bi.law W (args:=[(.v (.int .i64 n0)),(.v v1)]) ?_ (E.Y.aaQ (E.Y.ad5 hL) wz hc1 hn0)).mono λe W' ⟨he,hg⟩=>?_
 ·intro x hx
  simp only[aU,fG,rH]at hx;rcases hx with rfl|rfl
  ·first|exact o0|rfl|trivial
  ·first|exact o1|rfl|trivial
 subst he;exact⟨_,rfl,E.ag6 ag8 rfl rfl (by kernel_rfl) Tryz.underlying4 (by kernel_rfl) hW' hg⟩
set_option maxRecDepth 100000 in
theorem akR(os:Os)(afD:os.Started)(H:Type)(enc:TypeId×Value->H):
  ReturnsInHanded {} Tryz.checked os 5 .any (λw args=>(Rows.nodeOwnsSpec.pre enc Tryz.prog Tryz.f5 Rows.nodeOwnsRow.domain false w args/\laidMetH Tryz.prog Rows.nodeOwnsRow.laid w)/\sizedMet enc Tryz.prog Tryz.f5 (OpenSpec.ofChange Rows.nodeOwnsSpec) false w args)
   (Rows.nodeOwnsSpec.post enc Tryz.prog Tryz.f5 false true false false):=by
 refine returnsInHanded_of_change_and (C:=Tryz.checked) (X:=λw _=>laidMetH Tryz.prog Rows.nodeOwnsRow.laid w) (λ_ _ _ hh h=>h.of_heap hh) ux afD (by as_aux_lemma=>kernel_rfl) Tryz.func5
  (ChangeSpec.witness_shaped (enc:=enc) (C:=Tryz.checked) (os:=os) (X:=λw _=>laidMetH Tryz.prog Rows.nodeOwnsRow.laid w) false (World.laidAll Tryz.prog os Rows.nodeOwnsRow.laid) #[.int .i64 0,.slice none 0 0] 8 (World.laidAll_os _ _ _)
   (World.shaped_of_ZipB (by as_aux_lemma=>kernel_rfl) (by as_aux_lemma=>kernel_rfl)) (by as_aux_lemma=>kernel_rfl) (by as_aux_lemma=>kernel_rfl) (by as_aux_lemma=>kernel_rfl)
   (by rw[MakeChecks.laidMetH_plain _ _ _ (by as_aux_lemma=>kernel_rfl)];exact laidMet_laidAll _ (by as_aux_lemma=>kernel_rfl) (by as_aux_lemma=>kernel_rfl))) ?_
 intro W gM args ds gs IQ aph hW hc _ hL _;exact aeF H enc W gM args ds gs IQ aph hL hW
set_option maxRecDepth 100000 in
theorem jF:Rows.NodeOwnsSaid:=
 OpenClaim.holds_of_wide 5 Tryz.f5 rfl rfl rfl rfl rfl rfl rfl ⟨rfl,rfl,rfl,rfl,rfl⟩ rfl rfl rfl rfl rfl (by as_aux_lemma=>kernel_rfl) Tryz.func5 jQ
  (ah (by as_aux_lemma=>kernel_rfl)) (by unfold Func.isWrapper;first|(rw[aC (by as_aux_lemma=>decide+kernel)];kernel_rfl)|(rw[if_neg (by as_aux_lemma=>decide+kernel)];exact⟨rfl,rfl⟩))
  (λos afD H enc _=>akR os afD H enc)
set_option maxRecDepth 100000 in
theorem proved:Rows.NodeOwnsCardSaid:=
 Claim7.holds_tied_plain_at .later [] _ true _ true jF (λ_ h=>by cases h) (by as_aux_lemma=>kernel_rfl) (λ_ h=>by cases h) nodeOwns_row_tie rfl ⟨rfl,rfl⟩ (by as_aux_lemma=>kernel_rfl) rfl
  (λf fn hf hfn=>by
   obtain rfl:f=5:=eL ((show Tryz.prog.funcNamed "maund/maundlaw31.NodeOwns" =some 5 by as_aux_lemma=>kernel_rfl).symm.trans hf) |>.symm
   obtain rfl:fn=Tryz.f5:=(eL (Tryz.func5.symm.trans hfn)).symm
   exact⟨by as_aux_lemma=>kernel_rfl,λj t ht=>by
    rw[Tryz.params5]at ht;have hm:t∈[3,22]:=by simpa using Array.mem_of_getElem? ht
    have cM:([3,22].all λu=>!Tryz.prog.wantsStandIn u)=true:=by as_aux_lemma=>kernel_rfl
    exact(show Tryz.prog.wantsStandIn t=false by simpa using bL.1 cM t hm)⟩)
  (ZQ rfl ah2)
end Go.Proofs.YtikipjbkjcefbaaGreatDoor.nodeOwns
