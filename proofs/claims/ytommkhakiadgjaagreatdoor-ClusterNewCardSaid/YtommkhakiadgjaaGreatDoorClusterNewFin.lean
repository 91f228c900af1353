/-
  Proved: for every input the law 'ClusterNew' returns true, and each argument reads behind the call as it read before. No condition.
-/
import Derived.Test.YtommkhakiadgjaaGreatDoorClusterNewZ6
set_option maxHeartbeats 40000000
namespace Go.Proofs.YtommkhakiadgjaaGreatDoor.clusterNew
open Go.ChangeShapes Go.WideShapes Go.ChangeAt Go.RowKit
set_option linter.unusedVariables false
theorem ux:ownKnob Tryz.prog.godebug=none:=by kernel_rfl
theorem ag8:laidOutB Tryz.prog=true:=by kernel_rfl
set_option maxRecDepth 100000 in
theorem aeF(H:Type)(enc:TypeId×Value->H)(W:World)(gM:Nat)(args:Array Value)(ds gs:List (DataW H))(IQ:List MemPlace)
  (ak0:∀(j:Nat) t v,Tryz.f3.params[j]?=some t->args[j]?=some v->Value.okWide Tryz.prog W .any gM t v)
  (hL:laidMetH Tryz.prog Rows.clusterNewRow.laid W)
  (hW:DataW.Whole enc Tryz.prog Tryz.f3.params.toList Rows.clusterNewSpec.vars false W args.toList ds gs IQ):
  Calls Tryz.prog 3 args W λe W'=>∃v,e= .returned v/\Rows.clusterNewSpec.post enc Tryz.prog Tryz.f3 false true false false W args v W':=by
 have hW':=hW;obtain⟨p,q,hA0,hV,rfl,hfz,NR⟩:=hW;have hA:DataW.TrodAll enc Tryz.prog W 0 (λ_=>true) true Tryz.f3.params.toList args.toList ds p:=hA0;rw[Tryz.params3]at hA ak0;obtain⟨v0,vs0,d0,ds0,p0,q0,EP,rfl,rfl,h0,r0⟩:=trodAll_cons hA;obtain⟨v1,vs1,d1,ds1,p1,q1,rfl,rfl,rfl,h1,r1⟩:=trodAll_cons r0;obtain⟨rfl,rfl,rfl⟩:=trodAll_nil r1
 obtain rfl:args= #[v0,v1]:=by cases args;simp_all
 obtain⟨rfl,rfl⟩:=trodVars_none hV;have D0:=E.Qc (λ_=>rfl) (sh:=E.Y.aqF) (by kernel_rfl) h0;have D1:=E.Qc (λ_=>rfl) (sh:=(.int .i64)) (by kernel_rfl) h1;obtain⟨c1,o1⟩:=E.afX (v:=v1) Tryz.underlying3 (ak0 1 _ _ rfl rfl);rw[c1]at D1;have g0:=E.ako (v:=v0) (show Tryz.prog.underlying 27=some (.struct (Tryz.prog.fieldsOf 27)) by kernel_rfl) (ak0 0 _ _ rfl rfl);obtain⟨c0,w0,k0⟩:=E.Y.arR D0;rw[k0]at g0;subst g0;obtain⟨n1,e1,ml⟩:=D1;simp only[rU,and_true]at e1;subst e1;have ml:=E.Tw ml;refine(E.bi.law W (args:=[(.a (E.Y.Sq c0 w0)),(.v (.int .i64 n1))]) ?_ (E.Y.ahL (E.Y.ad5 hL) ml)).mono λe W' ⟨he,hg⟩=>?_
 ·intro x hx
  simp only[aU,fG,rH]at hx;rcases hx with rfl|rfl
  ·first|exact o0|rfl|trivial
  ·first|exact o1|rfl|trivial
 subst he;exact⟨_,rfl,E.ag6 ag8 rfl rfl (by kernel_rfl) Tryz.underlying4 (by kernel_rfl) hW' hg⟩
set_option maxRecDepth 100000 in
theorem akR(os:Os)(afD:os.Started)(H:Type)(enc:TypeId×Value->H):
  ReturnsInHanded {} Tryz.checked os 3 .any (λw args=>(Rows.clusterNewSpec.pre enc Tryz.prog Tryz.f3 Rows.clusterNewRow.domain false w args/\laidMetH Tryz.prog Rows.clusterNewRow.laid w)/\sizedMet enc Tryz.prog Tryz.f3 (OpenSpec.ofChange Rows.clusterNewSpec) false w args)
   (Rows.clusterNewSpec.post enc Tryz.prog Tryz.f3 false true false false):=by
 refine returnsInHanded_of_change_and (C:=Tryz.checked) (X:=λw _=>laidMetH Tryz.prog Rows.clusterNewRow.laid w) (λ_ _ _ hh h=>h.of_heap hh) ux afD (by as_aux_lemma=>kernel_rfl) Tryz.func3
  (ChangeSpec.witness_shaped (enc:=enc) (C:=Tryz.checked) (os:=os) (X:=λw _=>laidMetH Tryz.prog Rows.clusterNewRow.laid w) false (World.laidAll Tryz.prog os Rows.clusterNewRow.laid) #[.agg #[.int .i64 0,.int .i64 0,.int .i64 0,.int .i64 0,.int .i64 0,.int .i64 0,.int .i64 0],.int .i64 0] 8 (World.laidAll_os _ _ _)
   (World.shaped_of_ZipB (by as_aux_lemma=>kernel_rfl) (by as_aux_lemma=>kernel_rfl)) (by as_aux_lemma=>kernel_rfl) (by as_aux_lemma=>kernel_rfl) (by as_aux_lemma=>kernel_rfl)
   (by rw[MakeChecks.laidMetH_plain _ _ _ (by as_aux_lemma=>kernel_rfl)];exact laidMet_laidAll _ (by as_aux_lemma=>kernel_rfl) (by as_aux_lemma=>kernel_rfl))) ?_
 intro W gM args ds gs IQ aph hW hc _ hL _;exact aeF H enc W gM args ds gs IQ aph hL hW
set_option maxRecDepth 100000 in
theorem jF:Rows.ClusterNewSaid:=
 OpenClaim.holds_of_wide 3 Tryz.f3 rfl rfl rfl rfl rfl rfl rfl ⟨rfl,rfl,rfl,rfl,rfl⟩ rfl rfl rfl rfl rfl (by as_aux_lemma=>kernel_rfl) Tryz.func3 jQ
  (ah (by as_aux_lemma=>kernel_rfl)) (by unfold Func.isWrapper;first|(rw[aC (by as_aux_lemma=>decide+kernel)];kernel_rfl)|(rw[if_neg (by as_aux_lemma=>decide+kernel)];exact⟨rfl,rfl⟩))
  (λos afD H enc _=>akR os afD H enc)
set_option maxRecDepth 100000 in
theorem proved:Rows.ClusterNewCardSaid:=
 Claim7.holds_tied_plain_at .later [] _ true _ true jF (λ_ h=>by cases h) (by as_aux_lemma=>kernel_rfl) (λ_ h=>by cases h) clusterNew_row_tie rfl ⟨rfl,rfl⟩ (by as_aux_lemma=>kernel_rfl) rfl
  (λf fn hf hfn=>by
   obtain rfl:f=3:=eL ((show Tryz.prog.funcNamed "maund/maundlaw33.ClusterNew" =some 3 by as_aux_lemma=>kernel_rfl).symm.trans hf) |>.symm
   obtain rfl:fn=Tryz.f3:=(eL (Tryz.func3.symm.trans hfn)).symm
   exact⟨by as_aux_lemma=>kernel_rfl,λj t ht=>by
    rw[Tryz.params3]at ht;have hm:t∈[27,3]:=by simpa using Array.mem_of_getElem? ht
    have cM:([27,3].all λu=>!Tryz.prog.wantsStandIn u)=true:=by as_aux_lemma=>kernel_rfl
    exact(show Tryz.prog.wantsStandIn t=false by simpa using bL.1 cM t hm)⟩)
  (ZQ rfl ah2)
end Go.Proofs.YtommkhakiadgjaaGreatDoor.clusterNew
