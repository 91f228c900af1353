import Derived.Test.YtommkhakiadgjaaGreatDoorClusterNewZ4
import Derived.Test.YtommkhakiadgjaaGreatDoorCards
import Derived.Lay
import Derived.LaidLaws
import Derived.MakeChecks
set_option maxHeartbeats 40000000
set_option maxRecDepth 100000
set_option linter.unusedVariables false
namespace Go.E.Y
open Go.Proofs
section
variable {P:Program}{α:Type} [DecidableEq α] {enc:α->Value}{kt:TypeId}{d:TypeDesc}
theorem aaD{β:Type}{f g:β->β}:∀{l:List β}{j:Nat}{a:β},l[j]?=some a->f a=g a->l.modify j f=l.modify j g
 |[],_,_,h,_=>by simp at h
 |b::l,0,a,h,e=>by simp at h;subst h;simp[e]
 |b::l,j+1,a,h,e=>by
  rw[Fv]at h;rw[ajl,ajl,aaD h e]
theorem ah8{mt et:TypeId}(hk:anT P enc kt d)(hm:P.underlying mt=some (.map kt et))(hd:P.underlying kt=some d){z:CV}(hz:(P.info? et).bind (·.zero)=some z.val)(atz:z.ok){m:aD}{b clock:Nat}{es:List (lq α)}{k:α}{kc:CV}(hkc:kc.val=enc k)
  (hb:m b=some (nk enc es clock)) (hes:∀e∈es,e.v.ok):
  bF P (.mapEntry mt) [.v (.map (some b)),kc] m λr m'=>∃st:Nat,r=[(mD k es).getD z,.v (.int .i64 st)]/\m'=m.set b (nk enc (uu k ((mD k es).getD z) clock es) (kS k clock es))/\∃(j:Nat) (e:lq α),(uu k ((mD k es).getD z) clock es)[j]?=some e/\e.k=k/\e.b=st/\(uu k ((mD k es).getD z) clock es).findIdx? (λe=>decide (k=e.k))=some j:=by
 intro _ ty W hW;have yD:=hW _ _ hb
 have wn:(zeroValue et).run P W= .ok z.val W:=by
  cases hi:P.info? et with
  |none=>simp[hi]at hz
  |some i=>simp[hi]at hz;simp[zeroValue,typeInfo,hi,hz]
 have hf:=N1 hk hd W k es;have hx:=Ib k es;have jG:=Gx enc k ((mD k es).getD z) clock es;have ZI:(Instr.checkKey false 10000 kt (enc k)).run P W= .ok () W:=hk.Jd W k false;have ha:List.map CV.val [.v (.map (some b)),kc]=[.map (some b),enc k]:=by rw[aZ,aZ,hkc];rfl
 have apf:((mD k es).getD z).ok:=by
  unfold mD
  cases hq:es.find? (λe=>decide (k=e.k))with
  |none=>exact atz
  |some e=>exact hes e (jn hq)
 rw[ha]
 cases hi:es.findIdx? λe=>decide (k=e.k)with
 |none=>
  rw[hi]at hx hf jG;simp only at hx hf jG;rw[hx]at apf jG⊢;simp only[Option.getD_none]at jG apf⊢
  have xr:∀e∈es,¬k=e.k:=λe he h=>by
   have:=List.findIdx?_eq_none_iff.1 hi e he
   simp[h]at this
  have HZ:∀(es:List (lq α)),(∀e∈es,¬k=e.k)->uu k z clock es=es++[⟨k,z,clock⟩]:=by
   intro es
   induction es with
   |nil=>intro _;rfl
   |cons e es ih=>intro h;rw[uu,if_neg (h e (by simp)),ih λx hx=>h x (by simp[hx])];rfl
  refine⟨[z,.v (.int .i64 clock)],_,_,?_,?_,⟨clock,rfl,rfl,es.length,⟨k,z,clock⟩,by show(uu k z clock es)[_]?=_;rw[HZ es xr];simp,rfl,rfl,?_⟩,cr.put hW hb _⟩
  ·have hc:kS k clock es=clock+1:=by simp[kS,hx]
   have he:(es.map (lq.entry enc)).toArray.push ⟨enc k,z.val,clock⟩=((uu k z clock es).map (lq.entry enc)).toArray:=by
    rw[<-jG];simp
   have hr:(Instr.mapEntry mt (.map (some b)) (enc k)).run P W= .ok (.tuple #[z.val,goInt clock]) {W with heap:=W.heap.setIfInBounds b (nk enc (uu k z clock es) (kS k clock es))}:=by
    simp only[Instr.mapEntry,Sem.run_bind,run_underlying hm,MapKept.run_getObj_map yD,ZI,hf,Result.andThen_ok,wn,he,hc,MapKept.run_setObj_map _ yD,nk,Sem.run_pure]
   exact hr
  ·intro y hy
   simp at hy;rcases hy with rfl|rfl
   ·exact apf
   ·rfl
  ·show(uu k z clock es).findIdx? _=_
   rw[HZ es xr,List.findIdx?_append,hi];simp
 |some j=>
  rw[hi]at hx hf jG;obtain⟨e,h1,h2,h3⟩:=hx;rw[h2]at apf jG⊢;simp only[h1,dZ,jA]at hf jG apf⊢
  have hj:∀(es:List (lq α)) (j:Nat),es[j]?=some e->es.findIdx? (λe=>decide (k=e.k))=some j->(uu k e.v clock es)[j]?=some ⟨k,e.v,e.b⟩/\(uu k e.v clock es).findIdx? (λe=>decide (k=e.k))=some j:=by
   intro es
   induction es with
   |nil=>intro j h;simp at h
   |cons x es ih=>
    intro j g1 g2;rw[BA]at g2;by_cases hxk:k=x.k
    ·simp only[hxk,decide_true,oN,aM]at g2
     subst g2;simp at g1;subst g1;rw[uu,aC hxk];exact⟨rfl,by rw[BA];simp⟩
    ·simp only[hxk,aaJ,gS,cU]at g2
     cases hq:es.findIdx? λe=>decide (k=e.k)with
     |none=>rw[hq]at g2;cases g2
     |some i=>
      rw[hq]at g2;simp only[dZ,aM]at g2;subst g2;rw[Fv]at g1;obtain⟨i1,i2⟩:=ih i g1 hq;rw[uu,if_neg hxk];exact⟨i1,by rw[BA];simp[hxk,i2]⟩
  obtain⟨j1,j2⟩:=hj es j h1 hi;refine⟨[e.v,.v (.int .i64 e.b)],_,_,?_,?_,⟨e.b,rfl,rfl,j,_,j1,rfl,rfl,j2⟩,cr.put hW hb _⟩
  ·have hc:kS k clock es=clock:=by simp[kS,h2]
   have alp:((((es.map (lq.entry enc)).toArray[j]?).map (·.key)).getD (enc k))=enc k:=by
    simp[h1,lq.entry,h3]
   have hsb:=hk.bits k
   have he:(es.map (lq.entry enc)).toArray.modify j (λe=>{e with key:=enc k})=((uu k e.v clock es).map (lq.entry enc)).toArray:=by
    rw[<-jG,List.modify_toArray]
    congr 1
    refine aaD (a:=lq.entry enc e) (by simp[h1]) ?_;rfl
   have hr:(Instr.mapEntry mt (.map (some b)) (enc k)).run P W= .ok (.tuple #[e.v.val,goInt e.b]) {W with heap:=W.heap.setIfInBounds b (nk enc (uu k e.v clock es) (kS k clock es))}:=by
    have adT:((((es.map (lq.entry enc)).toArray[j]?).map λx=>(x.born:Int)).getD 0)=(e.b:Int):=by simp[h1,lq.entry]
    simp only[Instr.mapEntry,Sem.run_bind,run_underlying hm,MapKept.run_getObj_map yD,ZI,hf,Result.andThen_ok,alp,Instr.keyThatStays,hsb,oN,Sem.run_pure,he,hc,adT,MapKept.run_setObj_map _ yD,nk]
   exact hr
  ·intro y hy
   simp at hy;rcases hy with rfl|rfl
   ·exact apf
   ·rfl
theorem ahJ{mt:TypeId}{m:aD}{b clock st j:Nat}{es:List (lq α)}{e:lq α}{k:α}{x:CV}(hb:m b=some (nk enc es clock))(hd:es.Pairwise λx y=>x.b≠y.b)(h1:es[j]?=some e) (h2:e.k=k) (h3:e.b=st) (h4:es.findIdx? (λe=>decide (k=e.k))=some j) (c:Nat):
  bF P (.entryStore mt) [.v (.map (some b)),.v (.int .i64 st),x] m λr m'=>m'=m.set b (nk enc (uu k x c es) clock):=by
 intro _ ty W hW;have yD:=hW _ _ hb;have jG:=Gx enc k x c es;rw[h4]at jG;simp only at jG
 have hi:(es.map (lq.entry enc)).findIdx? (λe=>(e.born:Int)==(st:Int))=some j:=by
  have:∀(es:List (lq α)) (j:Nat),es.Pairwise (λx y=>x.b≠y.b)->es[j]?=some e->(es.map (lq.entry enc)).findIdx? (λe=>(e.born:Int)==(st:Int))=some j:=by
   intro es
   induction es with
   |nil=>intro j _ h;simp at h
   |cons y es ih=>
    intro j hp h;obtain⟨p1,p2⟩:=bh.1 hp
    cases j with
    |zero=>simp at h;subst h;simp[BA,lq.entry,h3]
    |succ j=>
     rw[Fv]at h;have ga:=p1 e (dJ h);rw[aZ,BA,ih j p2 h]
     have:(((lq.entry enc y).born:Int)==(st:Int))=false:=by
      rw[<-h3];exact beq_false_of_ne λe=>ga (by exact_mod_cast e)
     simp[this]
  exact this es j hd h1
 refine⟨[],_,_,?_,(by intro y hy;cases hy),rfl,cr.put hW hb _⟩
 have he:(es.map (lq.entry enc)).toArray.modify j (λe=>{e with val:=x.val})=((uu k x c es).map (lq.entry enc)).toArray:=by
  rw[<-jG,List.modify_toArray]
  congr 1
  refine aaD (a:=lq.entry enc e) (by simp[h1]) ?_;simp[lq.entry,h2]
 have hr:(Instr.entryStore mt (.map (some b)) (.int .i64 st) x.val).run P W= .ok () {W with heap:=W.heap.setIfInBounds b (nk enc (uu k x c es) clock)}:=by
  have HR:(es.map (lq.entry enc)).toArray.findIdx? (λe=>(e.born:Int)==(st:Int))=some j:=by rw[List.findIdx?_toArray];exact hi
  simp only[Instr.entryStore,asInt,asIntOf,Sem.run_bind,Sem.run_pure,MapKept.run_getObj_map yD,Result.andThen_ok,HR,he,MapKept.run_setObj_map _ yD,nk]
 simp only[dF.run,aZ,lK,CV.val,Sem.run_bind];exact(be (Result.andThen · _) hr)
theorem ak4{mt et:TypeId}{xB:List TypeId}(hk:anT P enc kt d)(hm:P.underlying mt=some (.map kt et))(hd:P.underlying kt=some d){m:aD}{b clock:Nat}{es:List (lq α)}{k:α}{kc:CV}(hkc:kc.val=enc k)(hb:m b=some (nk enc es clock)):
  bF P (.builtin .delete (mt::xB)) [.v (.map (some b)),kc] m λr m'=>r=[]/\m'=m.set b (nk enc (Fi k es) clock):=by
 intro _ ty W hW;have yD:=hW _ _ hb;have hf:=N1 hk hd W k es;have jG:=Ma enc k es;have ZI:∀e,(Instr.checkKey e 10000 kt (enc k)).run P W= .ok () W:=λe=>hk.Jd W k e;have ha:List.map CV.val [.v (.map (some b)),kc]=[.map (some b),enc k]:=by rw[aZ,aZ,hkc];rfl
 rw[ha];refine⟨[],_,_,?_,(by intro y hy;cases hy),⟨rfl,rfl⟩,cr.put hW hb _⟩
 cases hi:es.findIdx? λe=>decide (k=e.k)with
 |none=>
  rw[hi]at hf jG;simp only at hf jG;simp[dF.run,dF.dE,dF.Fz,gm,Builtin.delete_,run_underlying hm,MapKept.run_getObj_map yD,ZI,hf,nk,MapKept.run_setObj_map _ yD,<-jG]
 |some j=>
  rw[hi]at hf jG;simp only at hf jG;simp[dF.run,dF.dE,dF.Fz,gm,Builtin.delete_,run_underlying hm,MapKept.run_getObj_map yD,ZI,hf,nk,MapKept.run_setObj_map _ yD,<-jG]
theorem SZ(k:α)(v x:CV)(c c':Nat):∀es:List (lq α),uu k x c' (uu k v c es)=uu k x c es
 |[]=>by simp[uu]
 |e::es=>by
  rw[uu];by_cases h:k=e.k
  ·rw[aC h,uu,aC rfl,uu,aC h]
  ·rw[if_neg h,uu,if_neg h,uu,if_neg h,SZ]
end
abbrev lkC(k:R4):CV:=.a [.bG .i64 2 [k.1,k.2]]
variable{m:aD}
theorem aoK:bi tP 26 [] m λr m'=>∃a p,r=[cx a]/\aq m' [p,m]/\aaQ p a ⟨[],0,0,0⟩:=by
 refine c7 c26 Tryz.func26 ?_;conv=>whnf
 refine .mk _ (wh (enc:=MF)) ?_;rintro _ m1⟨mb,hmb,rfl,rfl⟩;conv=>whnf
 intro a ha;conv=>whnf
 have h1:=((aq.one m).new hmb (nk MF [] 0)).new ha (ua mb ⟨[],0,0,0⟩);have hO:gg _ m a ⟨[],0,0,0⟩ mb 0 [] []:=⟨h1,.nil,rfl,by simp,.nil,.nil,by simp[sa]⟩;obtain⟨p,h2,h3⟩:=hO.cl;exact⟨a,p,rfl,h2,h3⟩
section
variable {mm m:aD}{a mb clock:Nat}{N:mi}{rs:List NRw}{ps:List aD}
theorem Al(h:gg mm m a N mb clock rs ps):eN tP 60 [cx a] mm [bR true]:=by
 refine ap Tryz.func60 ?_;conv=>whnf
 refine xY ?_;conv=>whnf
 refine xM h.o ?_;conv=>whnf
 exact rR
theorem aln:∀rs:List NRw,sa (rs.map rwE)=(rs.map λr=>r.2.2.2.length).sum
 |[]=>rfl
 |r::rs=>by
  have ih:=aln rs;unfold sa at*;simp only[aZ,o8,ih];simp[rwE]
theorem gg.row{mm m:aD}(h:gg mm m a N mb clock rs ps){i:Nat}(hi:i<rs.length):∃po qs,∃h2:i<ps.length,aq ps[i] (po::qs)/\mf po 118 1 rs[i].2.2.1 (rs[i].2.2.2.map (·.1))/\PL NMs qs rs[i].2.2.2:=by
 have hl:=h.rw.len;have hi2:i<ps.length:=by omega
 obtain⟨po,qs,h1,h2,h3⟩:=h.rw.get hi2 hi;exact⟨po,qs,hi2,h1,h2,h3⟩
theorem gg.sub{i:Nat}(h:gg mm m a N mb clock rs ps)(hi:i<ps.length):cL ps[i] mm:=h.sp.sub (by simp)
theorem gg.ux(h:gg mm m a N mb clock rs ps){r:NRw}(hr:r∈rs):mf mm 118 1 r.2.2.1 (r.2.2.2.map (·.1)):=by
 obtain⟨i,hi,rfl⟩:=dc hr;obtain⟨po,qs,h2,h3,h4,_⟩:=h.row hi;exact h4.sub ((h3.sub).trans (h.sub h2))
theorem gg.len(h:gg mm m a N mb clock rs ps){r:NRw}(hr:r∈rs):r.2.2.2.length<=2000:=by
 have h1:=h.n;rw[<-h.e,aln]at h1
 have key:∀{l:List Nat}{x:Nat},x∈l->x<=l.sum:=by
  intro l x hx
  induction l with
  |nil=>cases hx
  |cons y l ih=>
   rw[o8];rcases aU.1 hx with rfl|hx
   ·omega
   ·have:=ih hx;omega
 exact bq (key (aV.2 ⟨r,hr,rfl⟩)) h1
theorem aoM(h:gg mm m a N mb clock rs ps):bi tP 24 [cx a] mm λr m'=>r=[i64 (sa N.E)]/\cL mm m':=by
 have hn:=h.n;have hcs:sa N.E=(rs.map λr=>r.2.2.2.length).sum:=by rw[<-h.e];exact aln rs
 have adV:rs.Pairwise λx y=>(r8 x).b≠(r8 y).b:=h.bd;refine ap Tryz.func24 ?_;conv=>whnf
 refine xY ?_;conv=>whnf
 refine xM h.o ?_;conv=>whnf
 refine .mk _ (x3 (P:=tP) Tryz.underlying122 h.m) ?_;rintro _ _⟨it,ZC,rfl,rfl⟩;conv=>whnf
 refine .mk (ι:=List NRw) (λi=>rs.length-i.length) (λfK m'=>SX (λx=>(r8 x).b) rs fK/\aq m' [blk1 it (jx mb clock (fK.map λx=>(r8 x).b)),mm]) (λfK=>[(3,.c (i64 ((fK.map λr=>r.2.2.2.length).sum:Nat))),(12,.c (cx it))]) (λ_=>[]) [] ⟨SX.start rs,(aq.one mm).new ZC _⟩ ?_ ?_
 ·conv=>whnf
  exact Ra
 rintro fK m'⟨hv,bZ⟩;have EO:m' mb=some (nk MF (rs.map r8) clock):=bZ.sub (a:=mm) (by simp) _ _ h.m;have alv:m' it=some (jx mb clock (fK.map λx=>(r8 x).b)):=bZ.sub (a:=blk1 it (jx mb clock (fK.map λx=>(r8 x).b))) (by simp) _ _ (aG ..);conv=>whnf
 refine .mk _ (ahZ (P:=tP) (kc:=lkC) alv EO (λe he=>by obtain⟨f,hf,rfl⟩:=aV.1 he;exact h.bn f hf) (λe he=>by obtain⟨f,hf,rfl⟩:=aV.1 he;exact(h.ux hf).eF.one) (λ_=>⟨rfl,rfl,trivial⟩)) ?_;rintro _ m'' (⟨he,rfl,rfl⟩|⟨e,he,rfl,rfl⟩)
 ·conv=>whnf
  refine xN ?_;conv=>whnf
  have hq:=Zj hv adV he;refine⟨?_,bZ.sub⟩;rw[hcs,(hq.map λr=>r.2.2.2.length).sum_nat]
 ·obtain⟨f,hf,rfl,kV⟩:=acW he
  have lD:=hv.step hf kV;have hlen:=atj lD.born lD.sub;have ayS:=aA6 (w:=λr=>r.2.2.2.length) lD.born lD.sub;rw[ax,eV]at hlen;rw[bD,List.sum_append]at ayS;simp only[aZ,lK,o8,List.sum_nil,gO]at ayS;have bM:=bZ.set (aG ..) (jx mb clock ((fK.map λx=>(r8 x).b)++[(r8 f).b]));rw[cJ]at bM;have EO:(m'.set it (jx mb clock ((fK.map λx=>(r8 x).b)++[(r8 f).b]))) mb=some (nk MF (rs.map r8) clock):=bM.sub (a:=mm) (by simp) _ _ h.m;conv=>whnf
  refine xY ?_;conv=>whnf
  refine .mk _ (agM (P:=tP) (kc:=lkC f.1) (aD.bg ..) EO (aV.2 ⟨f,hf,rfl⟩) (cG.2 adV) (h.ux hf).eF.one ⟨rfl,rfl,trivial⟩) ?_;rintro _ _⟨rfl,rfl⟩;conv=>whnf
  obtain⟨af,cf,ef⟩:=Hy (h.ux hf).eF;rw[aH]at ef;have ev:(r8 f).v= .v (.slice af f.2.2.2.length cf):=be CV.v ef
  have e7:IntKind.i64.wrap (((fK.map λr=>r.2.2.2.length).sum:Nat)+(f.2.2.2.length:Int))=(((fK++[f]).map λr=>r.2.2.2.length).sum:Nat):=by
   rw[bD,List.sum_append,List.map_singleton,List.sum_singleton,wi];omega
  rw[ev];conv=>whnf
  refine⟨fK++[f],⟨lD,by rw[bD];exact bM⟩,by simp;omega,?_⟩;conv=>whnf
  repeat (refine And.intro (by first|with_reducible rfl|(first|exact cI e7)|exact cI (wi)|exact wi|rfl) ?_;conv=>whnf)
  exact xT
end
variable{α:Type}
theorem aoT(po x a1 a2 m:α)(Q P:List α):((po::x::Q)++(a1::a2::m::P)).Perm (po::a1::a2::x::m::(Q++P)):=by
 classical exact dP.2 λy=>by simp only[fE,nu];ac_rfl
theorem aqK(po x a1 a2 m:α)(Q P:List α):(po::a1::a2::x::m::(Q++P)).Perm ((po::Q)++(x::m::a1::a2::P)):=by
 classical exact dP.2 λy=>by simp only[fE,nu];ac_rfl
theorem aoY(pr x m a1 a2:α)(P:List α):(pr::x::m::a1::a2::P).Perm (x::m::pr::a1::a2::P):=by
 classical exact dP.2 λy=>by simp only[fE];ac_rfl
theorem ao9(z pr a1 a2:α)(P:List α):(z::pr::a1::a2::P).Perm (pr::a1::a2::z::P):=by
 classical exact dP.2 λy=>by simp only[fE];ac_rfl
theorem alR(po a1 a2 x m:α)(Q P:List α):(po::a1::a2::x::m::(Q++P)).Perm ((po::(Q++[x]))++(a1::a2::m::P)):=by
 classical exact dP.2 λy=>by simp only[fE,nu,List.count_nil];ac_rfl
theorem ajr(po x a1 a2 m:α)(Q P:List α):((po::Q)++(x::a1::a2::m::P)).Perm (po::a1::a2::x::m::(Q++P)):=by
 classical exact dP.2 λy=>by simp only[fE,nu];ac_rfl
theorem aqM(pr a1 a2 m:α)(P:List α):(pr::a1::a2::m::P).Perm (a1::a2::m::(P++[pr])):=by
 classical exact dP.2 λy=>by simp only[fE,nu,List.count_nil];ac_rfl
theorem aaG{α β:Type}(f:α->β):∀(l:List α) (i:Nat),(l.eraseIdx i).map f=(l.map f).eraseIdx i
 |[],_=>rfl
 |_::_,0=>rfl
 |x::l,i+1=>by simp[aaG f l i]
section
variable {mm m:aD}{a mb clock i j:Nat}{N:mi}{rs:List NRw}{ps:List aD}{k:R4}{r:NRw}
theorem aiB.mem(hr:aiB k rs j r):r∈rs:=dJ hr.ix
theorem gg.asp(h:gg mm m a N mb clock rs ps)(hr:aiB k rs j r)(hi:i<r.2.2.2.length):
  ∃po pi R,mf po 118 1 r.2.2.1 (r.2.2.2.map (·.1))/\NMs pi r.2.2.2[i]/\aq mm (po::blk1 a (ua mb N)::blk1 mb (nk MF (rs.map r8) clock)::pi::m::R)/\
   ∀m' o1 o2 po' v',aq m' (po'::blk1 a o1::blk1 mb o2::pi::m::R)->mf po' 118 1 v' ((r.2.2.2.map (·.1)).eraseIdx i)->
    (∃ps',PL RwP ps' (rs.set j (k,r.2.1,v',r.2.2.2.eraseIdx i))/\aq m' (blk1 a o1::blk1 mb o2::ig pi m::ps'))/\∃ps',PL RwP ps' (rs.eraseIdx j)/\aq m' (blk1 a o1::blk1 mb o2::ig pi m::ps'):=by
 obtain⟨hj,he⟩:=aQ.1 hr.ix;obtain⟨po,qs,h2,h3,h4,h5⟩:=h.row hj;rw[he]at h4 h5;have hql:=h5.len;have hiq:i<qs.length:=by omega
 have hps:ps[j]?=some ps[j]:=az h2;have h6:=h.sp.pick (i:=j+3) (a:=ps[j]) (by simp);have h7:=(aq.tQ h6 h3).fm ((((Im qs i qs[i] (az hiq)).symm.cons po).append_right _).trans (aoT ..));refine⟨po,qs[i],qs.eraseIdx i++ps.eraseIdx j,h4,h5.get hiq hi,h7,λm' o1 o2 po' v' hs hv=>?_⟩;obtain⟨g1,g2⟩:=aq.k9 (po'::qs.eraseIdx i) (hs.fm (aqK ..));have g3:=(g1.fm (aoY ..)).jo.fm (ao9 ..);refine⟨⟨_,h.rw.set (i:=j) (p:=gY (po'::qs.eraseIdx i)) (x:=(k,r.2.1,v',r.2.2.2.eraseIdx i)) ⟨po',_,g2,?_,h5.dV i⟩,?_⟩,⟨_,h.rw.dV j,g3.drop⟩⟩
 ·show mf po' _ 1 v' ((r.2.2.2.eraseIdx i).map (·.1))
  rw[aaG];exact hv
 ·exact aq.Gb (l:=blk1 a o1::blk1 mb o2::ig qs[i] m::ps) (i:=j+3) (p:=ps[j]) (by simp) g3
theorem ahV{r':NRw}(hr:rs[j]?=some r) (hb:r'.2.1=r.2.1) (hk:r'.1=r.1):(rs.set j r').map (·.2.1)=rs.map (·.2.1)/\(rs.set j r').map (·.1)=rs.map (·.1):=by
 obtain⟨hj,he⟩:=aQ.1 hr;refine⟨?_,?_⟩
 ·rw[Ap,hb,<-he,<-qz (λr:NRw=>r.2.1) (h:=by simpa using hj),vG]
 ·rw[Ap,hk,<-he,<-qz (λr:NRw=>r.1) (h:=by simpa using hj),vG]
theorem gg.set{m' m2:aD}{N':mi}{r':NRw}{ps':List aD}(h:gg mm m a N mb clock rs ps)(hr:rs[j]?=some r) (hb:r'.2.1=r.2.1) (hk:r'.1=r.1) (hs:aq m' (blk1 a (ua mb N')::blk1 mb (nk MF ((rs.set j r').map r8) clock)::m2::ps')) (hp:PL RwP ps' (rs.set j r')) (he:(rs.set j r').map rwE=N'.E) (hn:sa N'.E<=2000):gg m' m2 a N' mb clock (rs.set j r') ps':=by
 obtain⟨e1,e2⟩:=ahV hr hb hk;refine⟨hs,hp,he,λx hx=>?_,?_,?_,hn⟩
 ·have:x.2.1∈(rs.set j r').map (·.2.1):=aV.2 ⟨x,hx,rfl⟩
  rw[e1]at this;obtain⟨y,hy,e⟩:=aV.1 this;rw[<-e];exact h.bn y hy
 ·have:=cG.2 h.bd
  rw[<-e1]at this;exact cG.1 this
 ·have:=cG.2 h.ku
  rw[<-e2]at this;exact cG.1 this
theorem gg.del{m' m2:aD}{N':mi}{ps':List aD}(h:gg mm m a N mb clock rs ps)(hs:aq m' (blk1 a (ua mb N')::blk1 mb (nk MF ((rs.eraseIdx j).map r8) clock)::m2::ps'))(hp:PL RwP ps' (rs.eraseIdx j))(he:(rs.eraseIdx j).map rwE=N'.E)(hn:sa N'.E<=2000):gg m' m2 a N' mb clock (rs.eraseIdx j) ps':=
 ⟨hs,hp,he,λx hx=>h.bn x (List.mem_of_mem_eraseIdx hx),h.bd.sublist (List.eraseIdx_sublist ..),h.ku.sublist (List.eraseIdx_sublist ..),hn⟩
theorem gg.azs{pv0:aD}(h:gg mm m a N mb clock rs ps)(hx:aq mm (pv0::blk1 a (ua mb N)::blk1 mb (nk MF (rs.map r8) clock)::m::ps))(k:R4):∃(v:Value) (ms:List (Value×List Int)) (po:aD) (R:List aD),(mD k (rs.map r8)).getD (.v (.slice none 0 0))= .v v/\k7 k N.E=ms.map (·.2)/\mf po 118 1 v (ms.map (·.1))/\ms.length<=2000/\
  aq mm (po::blk1 a (ua mb N)::blk1 mb (nk MF (rs.map r8) clock)::pv0::m::R)/\
   ∀(m':aD) (N':mi) (po':aD) (v':Value) (pv:aD) (x:Value×List Int),aq m' (po'::blk1 a (ua mb N')::blk1 mb (nk MF (uu k (.v v') clock (rs.map r8)) (kS k clock (rs.map r8)))::pv::m::R)->mf po' 118 1 v' (ms.map (·.1)++[x.1])->NMs pv x->N'.E=N7 k (k7 k N.E++[x.2]) N.E->sa N.E<2000->∃rs' ps',gg m' m a N' mb (kS k clock (rs.map r8)) rs' ps':=by
 have hcn:∀{N':mi}{y:List Int},N'.E=N7 k (k7 k N.E++[y]) N.E->sa N.E<2000->sa N'.E<=2000:=λ{N' y} e hl=>by
  have:=alq k (k7 k N.E++[y]) N.E;rw[e];rw[ax,eV]at this;omega
 rcases R8 k rs with⟨j,r,hr⟩|hr
 ·obtain⟨hj,he⟩:=aQ.1 hr.ix
  obtain⟨po,qs,h2,h3,h4,h5⟩:=h.row hj;rw[he]at h4 h5;have hps:ps[j]?=some ps[j]:=az h2;have h6:=hx.pick (i:=j+4) (a:=ps[j]) (by simp);have hg:=hr.g;rw[h.e]at hg;refine⟨r.2.2.1,r.2.2.2,po,qs++ps.eraseIdx j,by rw[hr.f];rfl,hg,h4,h.len hr.mem,(aq.tQ h6 h3).fm (ajr ..),λm' N' po' v' pv x hs hv hy hE hl=>?_⟩;obtain⟨g1,g2⟩:=aq.k9 (po'::(qs++[pv])) (hs.fm (alR ..));have ZI:kS k clock (rs.map r8)=clock:=by unfold kS;rw[hr.f];rfl
  obtain⟨s1,s2⟩:=hr.s v' (r.2.2.2++[x]) clock;rw[s1,ZI]at g1;have g3:=aq.Gb (l:=blk1 a (ua mb N')::blk1 mb (nk MF ((rs.set j (k,r.2.1,v',r.2.2.2++[x])).map r8) clock)::m::ps) (i:=j+3) (p:=ps[j]) (by simp) g1;rw[ZI];refine⟨_,_,h.set hr.ix (r':=(k,r.2.1,v',r.2.2.2++[x])) rfl hr.ky.symm g3 (h.rw.set ⟨po',_,g2,?_,h5.append (.one hy)⟩) ?_ (hcn hE hl)⟩
  ·simpa using hv
  ·rw[<-s2,hE,hg,h.e];simp
 ·have hg:=hr.g
  rw[h.e]at hg;refine⟨.slice none 0 0,[],iI,ps,by rw[hr.f];rfl,hg,.inl ⟨rfl,rfl⟩,by simp,hx.cA.fm (ajr iI pv0 _ _ m [] ps),λm' N' po' v' pv x hs hv hy hE hl=>?_⟩;obtain⟨g1,g2⟩:=aq.k9 (po'::[pv]) ((hs.fm (alR po' _ _ pv m [] ps)));have ZI:kS k clock (rs.map r8)=clock+1:=by unfold kS;rw[hr.f];rfl
  obtain⟨s1,s2⟩:=hr.s v' [x] clock;rw[s1,ZI]at g1;rw[ZI];refine⟨_,_,⟨g1.fm (aqM ..),h.rw.append (.one ⟨po',_,g2,by simpa using hv,.one hy⟩),?_,λy hy=>?_,?_,?_,hcn hE hl⟩⟩
  ·rw[<-s2,hE,hg,h.e];simp
  ·rcases aR.1 hy with hy|hy
   ·have:=h.bn y hy;omega
   ·rw[aL.1 hy];exact Nat.lt_succ_self _
  ·refine cm.2 ⟨h.bd,Fu _ _,λy hy z hz=>?_⟩
   rw[aL.1 hz];have:=h.bn y hy
   show y.2.1≠clock
   omega
  ·refine cm.2 ⟨h.ku,Fu _ _,λy hy z hz=>?_⟩
   rw[aL.1 hz];exact hr.n y hy
theorem gg.OE(h:gg mm m a N mb clock rs ps)(k:R4)(v:Value):(uu k (.v v) clock (rs.map r8)).Pairwise λx y=>x.b≠y.b:=by
 rcases R8 k rs with⟨j,r,hr⟩|hr
 ·rw[(hr.s v r.2.2.2 clock).1]
  refine cG.2 ?_;have:=cG.2 h.bd;rw[<-(ahV (r':=(k,r.2.1,v,r.2.2.2)) hr.ix rfl hr.ky.symm).1]at this;exact cG.1 this
 ·rw[(hr.s v [] clock).1]
  refine cG.2 (cm.2 ⟨h.bd,Fu _ _,λy hy z hz=>?_⟩);rw[aL.1 hz];have:=h.bn y hy
  show y.2.1≠clock
  omega
end
theorem lkZ:(Tryz.prog.info? 127).bind (·.zero)=some (CV.v (.slice none 0 0)).val:=by kernel_rfl
section
variable {mm m:aD}{a mb clock i j:Nat}{N:mi}{rs:List NRw}{ps:List aD}{k:R4}{r:NRw}
theorem alS(h:gg mm m a N mb clock rs ps):bF tP (.lookup 122 false) [.v (.map (some mb)),lkC k] mm λr m'=>r=[(mD k (rs.map r8)).getD (.v (.slice none 0 0))]/\mm=m':=
 ak6 (P:=tP) anW (k:=k) (kc:=lkC k) Tryz.underlying122 aaE (z:=.v (.slice none 0 0)) lkZ rfl rfl h.m λe he=>by obtain⟨f,hf,rfl⟩:=aV.1 he;exact(h.ux hf).eF.one
theorem gg.real(h:gg mm m a N mb clock rs ps)(hr:r∈rs)(hi:i<r.2.2.2.length):∃b o c,r.2.2.1= .slice (some ⟨b,o,none⟩) r.2.2.2.length c/\∀i (hi:i<r.2.2.2.length),gR mm b (o+i)=some (r.2.2.2[i]).1:=by
 rcases h.ux hr with⟨_,e⟩|⟨b,o,c,n,arr,e,g1,g2,g3,g4,g5,g6⟩
 ·have:r.2.2.2.length=0:=by simpa using be List.length e
  omega
 ·have:r.2.2.2.length=n:=by simpa using g2
  exact⟨b,o,c,by rw[e,this],λj hj=>aF g1 (g5 j _ (by simp[hj]))⟩
theorem anV(h:gg mm m a N mb clock rs ps)(hr:aiB k rs j r)(hi:i<r.2.2.2.length):eN tP 61 [cx a,lkC k,i64 (i:Nat)] mm [.v r.2.2.2[i].1,i64 0]:=by
 obtain⟨b,o,c,e,nT⟩:=h.real (dJ hr.ix) hi;have hlen:=h.len (dJ hr.ix);have h1:=nT i hi;have h1o:(r.2.2.2[i].1).oneCell'=true:=(h.ux (dJ hr.ix)).eF.arU _ (aV.2 ⟨_,aO hi,rfl⟩);refine c7 c61 Tryz.func61 ?_;conv=>whnf
 first|refine fU (Al h) ?_ |refine bt (Al h) ?_
 conv=>whnf
 refine xN ?_;conv=>whnf
 refine xM h.o ?_;conv=>whnf
 refine .mk _ (alS (k:=k) h) ?_;rintro _ _⟨rfl,rfl⟩;conv=>whnf
 rw[hr.f,e];conv=>whnf
 refine⟨λh=>absurd h (by(simp;try omega)),λ_=>?_⟩;conv=>whnf
 refine⟨λh=>absurd h (by(simp;try omega)),λ_=>?_⟩;conv=>whnf
 repeat (refine xS ?_;conv=>whnf)
 refine⟨_,by simp only[bK,aA];exact h1,h1o,?_⟩;conv=>whnf
 exact rR
theorem app{m:aD}{b o n c:Nat}{l:List Value}{i:Nat}(h:gq m 1 (.slice (some ⟨b,o,none⟩) n c) l)(hi:i<=n):gq m 1 (.slice (some ⟨b,o,none⟩) i c) (l.take i):=by
 rcases h with⟨_,e,_⟩|⟨b,o,c,n,arr,t,fr,e,g1,g2,g3,g4,g5⟩
 ·cases e
 ·cases e
  refine .inr ⟨b,o,c,i,arr,t,fr,rfl,g1,by rw[aK];omega,by omega,λj u hu=>?_,λu hu=>g5 u (bX hu)⟩;rw[bN]at hu
  split at hu
  ·exact g4 j u hu
  ·cases hu
theorem apB{m:aD}{b o n c:Nat}{l:List Value}{i o':Nat}(h:gq m 1 (.slice (some ⟨b,o,none⟩) n c) l)(hi:i<=n)(ho:i<n->o'=o+i):gq m 1 (.slice (some ⟨b,o',none⟩) (n-i) (c-i)) (l.drop i):=by
 rcases h with⟨_,e,_⟩|⟨b,o,c,n,arr,t,fr,e,g1,g2,g3,g4,g5⟩
 ·cases e
 ·cases e
  refine .inr ⟨b,o',c-i,n-i,arr,t,fr,rfl,g1,by rw[cC];omega,by omega,λj u hu=>?_,λu hu=>g5 u (fk hu)⟩;rw[cT]at hu;have bH:=(aQ.1 hu).1;have:=g4 _ u hu;rw[ho (by omega),gi];exact this
theorem aoO(h:gg mm m a N mb clock rs ps)(hr:aiB k rs j r)(hi:i<r.2.2.2.length):bi tP 62 [cx a,lkC k,i64 (i:Nat)] mm λres m'=>res=[]/\∃pi rs' ps',gg m' (ig pi m) a {N with E:=ajg k i N.E} mb clock rs' ps'/\NMs pi r.2.2.2[i]/\aq (ig pi m) [pi,m]:=by
 obtain⟨po,pi,R,h1,h2,h3,h4⟩:=h.asp hr hi;obtain⟨b,o,c,e,nT⟩:=h.real hr.mem hi;have hlen:=h.len hr.mem;have auh:=(h.ux hr.mem).eF;have hg:=hr.g;rw[h.e]at hg;rw[e]at h1 auh;refine c7 c62 Tryz.func62 ?_;conv=>whnf
 refine xM h.o ?_;conv=>whnf
 refine xM h.o ?_;conv=>whnf
 have hc:r.2.2.2.length<=c:=by
  rcases acU (by omega) auh with h|h
  ·exact h
  ·omega
 have ew:IntKind.i64.wrap ((i:Int)+1)=((i+1:Nat):Int):=by rw[wi];omega
 refine⟨?a1,?a2⟩
 case' a1=>
  conv=>whnf
  refine .mk _ (alS (k:=k) h) ?_;rintro _ _⟨rfl,rfl⟩;conv=>whnf
  refine⟨λ_ _=>rfl,?_⟩;rw[hr.f,e];conv=>whnf
  repeat (refine xS ?_;conv=>whnf)
  intro o0 f1 f2
  obtain rfl:o=o0:=by
   have:=f1 (by omega);simpa using this.symm
  conv=>whnf
  refine .mk _ (alS (k:=k) h) ?_;rintro _ _⟨rfl,rfl⟩;conv=>whnf
  refine⟨λ_ _=>rfl,?_⟩;rw[hr.f,e,ew];conv=>whnf
  repeat (refine xS ?_;conv=>whnf)
  intro o1 g1 g2;conv=>whnf
 case' a2=>
  conv=>whnf
  refine .mk _ (alS (k:=k) h) ?_;rintro _ _⟨rfl,rfl⟩;conv=>whnf
  refine⟨λ_ _=>rfl,?_⟩;rw[hr.f,e,ew];conv=>whnf
  repeat (refine xS ?_;conv=>whnf)
  intro o1 g1 g2;conv=>whnf
  refine .mk _ (alS (k:=k) h) ?_;rintro _ _⟨rfl,rfl⟩;conv=>whnf
  refine⟨λ_ _=>rfl,?_⟩;rw[hr.f,e];conv=>whnf
  repeat (refine xS ?_;conv=>whnf)
  intro o0 f1 f2
  obtain rfl:o=o0:=by
   have:=f1 (by omega);simpa using this.symm
  conv=>whnf
 all_goals
  simp only[aA,aiH];refine .mk _ (aeO) ?_;rintro _ _⟨b5,mo,rfl,rfl⟩;conv=>whnf
  have eD:=h3.new mo (.cells #[.slice (some ⟨b,o,none⟩) i c,.slice (some ⟨b,o1,none⟩) (r.2.2.2.length-(i+1)) (c-(i+1))] 127)
  have Ve:tz [((.slice (some ⟨b,o,none⟩) i c:Value),(r.2.2.2.map (·.1)).take i),(.slice (some ⟨b,o1,none⟩) (r.2.2.2.length-(i+1)) (c-(i+1)),(r.2.2.2.map (·.1)).drop (i+1))]=(r.2.2.2.map (·.1)).eraseIdx i:=by
   rw[List.eraseIdx_eq_take_drop_succ];simp[tz]
  have Q0:=aD.bT (.cells #[.slice (some ⟨b,o,none⟩) i c,.slice (some ⟨b,o1,none⟩) (r.2.2.2.length-(i+1)) (c-(i+1))] 127) mo
  have hls:LsL (mm.set b5 (.cells #[.slice (some ⟨b,o,none⟩) i c,.slice (some ⟨b,o1,none⟩) (r.2.2.2.length-(i+1)) (c-(i+1))] 127)) (.slice (some ⟨b5,0,none⟩) 2 2) [((.slice (some ⟨b,o,none⟩) i c:Value),(r.2.2.2.map (·.1)).take i),(.slice (some ⟨b,o1,none⟩) (r.2.2.2.length-(i+1)) (c-(i+1)),(r.2.2.2.map (·.1)).drop (i+1))]:=by
   refine⟨.inr ⟨b5,0,2,2,_,_,_,rfl,aD.bg ..,rfl,aW _,λj u hu=>by simpa using hu,by simp[Value.oneCell']⟩,λp hp=>?_⟩;simp only[aU,fG,rH]at hp;rcases hp with rfl|rfl
   ·exact(app auh (by omega)).sub Q0
   ·exact(apB auh (by omega) λbH=>by have:=g1 (by omega);simpa using this).sub Q0
  refine aP (Ow hls (by rw[Ve,List.length_eraseIdx,aH];split<;>omega) (by simp)) ?_;rintro _ m6⟨v6,p6,rfl,gC,ho6⟩;conv=>whnf
  rw[Ve]at ho6;have iU:aq m6 (p6::blk1 a (ua mb N)::blk1 mb (nk MF (rs.map r8) clock)::pi::m::R):=((aq.jN (a:=[p6]) gC eD).dV 1).dV 1;have Te:m6 a=some (ua mb N):=iU.get (a:=blk1 a (ua mb N)) (by simp) (aG ..);have hm7:m6 mb=some (nk MF (rs.map r8) clock):=iU.get (a:=blk1 mb (nk MF (rs.map r8) clock)) (by simp) (aG ..);obtain⟨a6,c6,e6⟩:=Hy ho6.eF;subst e6;have hl6:((r.2.2.2.map (·.1)).eraseIdx i).length=((r.2.2.2.map (·.2)).eraseIdx i).length:=by simp only[List.length_eraseIdx,aH]
  have aqn:ajg k i N.E=if ((r.2.2.2.map (·.2)).eraseIdx i)=[]then ali k N.E else N7 k ((r.2.2.2.map (·.2)).eraseIdx i) N.E:=by unfold ajg;rw[hg]
  have hjm:aq (ig pi m) [pi,m]:=aq.abk (aq.one _) h3.drop.drop.drop.dj
  have hcn:sa (ajg k i N.E)<=2000:=by
   have h1:=asQ (k:=k) (i:=i) (E:=N.E) (by rw[hg,aH];exact hi);have h2:=h.n;omega
  conv=>whnf
  apply bI<;>intro h5
  ·have h5:((r.2.2.2.map (·.1)).eraseIdx i).length=0:=by simpa using h5
   rw[aC (cB (by omega))]at aqn;conv=>whnf
   refine xM Te ?_;conv=>whnf
   refine .mk _ (ak4 (P:=tP) anW (k:=k) (kc:=lkC k) Tryz.underlying122 aaE rfl hm7) ?_;rintro _ _⟨rfl,rfl⟩;conv=>whnf
   have k8:=iU.gu (i:=2) rfl (aG ..) (nk MF (Fi k (rs.map r8)) clock);rw[cJ,hr.d.1]at k8;obtain⟨ps',g3,g4⟩:=(h4 _ _ _ _ _ k8 ho6).2;have hd:=hr.d.2;rw[h.e]at hd;rw[hr.d.1];exact⟨rfl,pi,_,ps',h.del (N':={N with E:=ajg k i N.E}) g4 g3 (by rw[<-hd,<-aqn]) hcn,h2,hjm⟩
  ·have h5:¬((r.2.2.2.map (·.1)).eraseIdx i).length=0:=by simpa using h5
   rw[if_neg (λe=>h5 (by rw[hl6,e];rfl))]at aqn;conv=>whnf
   refine xM Te ?_;conv=>whnf
   refine .mk _ (akY (P:=tP) anW (k:=k) (kc:=lkC k) Tryz.underlying122 aaE rfl hm7) ?_;rintro _ m' rfl;conv=>whnf
   have k8:=iU.gu (i:=2) rfl (aG ..) (nk MF (uu k (.v (.slice a6 ((r.2.2.2.map (·.1)).eraseIdx i).length c6)) clock (rs.map r8)) (kS k clock (rs.map r8)));have ZI:kS k clock (rs.map r8)=clock:=by unfold kS;rw[hr.f];rfl
   obtain⟨s1,s2⟩:=hr.s (.slice a6 ((r.2.2.2.map (·.1)).eraseIdx i).length c6) (r.2.2.2.eraseIdx i) clock;rw[cJ,s1,ZI]at k8;rw[s1,ZI];obtain⟨ps',g3,g4⟩:=(h4 _ _ _ _ _ k8 ho6).1;rw[h.e,aaG]at s2;exact⟨rfl,pi,_,ps',h.set hr.ix (r':=(k,r.2.1,.slice a6 ((r.2.2.2.map (·.1)).eraseIdx i).length c6,r.2.2.2.eraseIdx i)) (N':={N with E:=ajg k i N.E}) rfl hr.ky.symm g4 g3 (by rw[<-s2,<-aqn]) hcn,h2,hjm⟩
end
def mi.WI(N:mi)(x:gX):mi:=
 if dR x=false then N
 else if 2000<=sa N.E then {N with put:=IntKind.i64.wrap (N.put+1),fQ:=IntKind.i64.wrap (N.fQ+1)}
 else {N with put:=IntKind.i64.wrap (N.put+1),E:=N7 (x.fr,x.qe) (k7 (x.fr,x.qe) N.E++[we x]) N.E}
def mi.akA(N:mi)(k:R4)(i:Nat):mi:={N with E:=ajg k i N.E,aqz:=IntKind.i64.wrap (N.aqz+1)}
section
variable {mm m p:aD}{a:Nat}{N:mi}{f t:Int}
theorem gg.upd{mm m:aD}{a mb clock:Nat}{N N':mi}{rs:List NRw}{ps:List aD}(h:gg mm m a N mb clock rs ps)(he:N'.E=N.E):gg (mm.set a (ua mb N')) m a N' mb clock rs ps:=by
 have h1:=h.sp.set (aG ..) (ua mb N');rw[cJ]at h1;exact⟨h1,h.rw,by rw[he];exact h.e,h.bn,h.bd,h.ku,by rw[he];exact h.n⟩
theorem aso{k:R4}{rs:List NRw}{N:mi}{i:Nat}(he:rs.map rwE=N.E)(hi:i<(k7 k N.E).length):∃j r,aiB k rs j r/\∃h:i<r.2.2.2.length,(k7 k N.E)[i]=r.2.2.2[i].2:=by
 rcases R8 k rs with⟨j,r,hr⟩|hr
 ·have hg:=hr.g
  rw[he]at hg;refine⟨j,r,hr,by rw[hg,aH]at hi;exact hi,by simp only[hg,qz]⟩
 ·have hg:=hr.g
  rw[he]at hg;rw[hg]at hi;cases hi
theorem ahT(h:aaQ p a N)(hs:aq mm [p,m])(hS:cK m){i:Nat}(hi:i<(k7 (f,t) N.E).length):
  bi tP 34 [cx a,i64 f,i64 t,i64 (i:Nat)] mm λr m'=>∃s p' pm,r=[mT (sg ((k7 (f,t) N.E)[i])).1 s,i64 (sg ((k7 (f,t) N.E)[i])).2]/\aq m' [pm,p',m]/\aaQ p' a (N.akA (f,t) i)/\gy pm (sg ((k7 (f,t) N.E)[i])).1 s/\qx (sg ((k7 (f,t) N.E)[i])).1/\∀c∈(sg ((k7 (f,t) N.E)[i])).1.ca,aiL c:=by
 obtain⟨mb,clock,rs,ps,hO⟩:=h.op hs;obtain⟨j,r,hr,hir,HS⟩:=aso hO.e hi;rw[HS];refine ap Tryz.func34 ?_;conv=>whnf
 first|refine fU (anV (k:=(f,t)) hO hr hir) ?_ |refine bt (anV (k:=(f,t)) hO hr hir) ?_
 conv=>whnf
 refine xN ?_;conv=>whnf
 refine aP (aoO (k:=(f,t)) hO hr hir) ?_;rintro _ m1⟨rfl,pi,rs',ps',hO1,hm,hpm⟩;conv=>whnf
 refine xM hO1.o ?_;conv=>whnf
 refine⟨_,_,_,hO1.o,⟨by simp,by simp⟩,?_⟩;conv=>whnf
 have hO2:=hO1.upd (N':=N.akA (f,t) i) rfl;have B8:=hO2.sp.sub (a:=ig pi m);refine aP (UB (hS.sub ((hpm.sub).trans B8)) (hm.b.lb.sub ((hpm.sub).trans B8)) hm.y (bq hm.l (by decide))) ?_;rintro _ m3⟨s,pm,rfl,dy,h3,h4,h5⟩;conv=>whnf
 obtain⟨p',g1,g2⟩:=hO2.cl;have g3:aq m3 [pm,p',ig pi m]:=aq.jN (a:=[pm]) dy g1;have g4:aq m3 [pm,p',m]:=(aq.tQ (g3.ir [2,0,1]) hpm).ir [2,3,1];exact⟨s,p',pm,rfl,g4,g2,h3,h4,h5⟩
theorem aoH{x:gX}{s:iS}(h:aaQ p a N)(hs:aq mm [p,m])(hS:cK m)(hx:gy m x s)(ho:qx x)(hl:(x.ca.map nJ).flatten.length<=9000000)(hb:jl (we x))(Fc:(we x).length<=10000000):
  bi tP 32 [cx a,mT x s] mm λr m'=>∃e p',r=[i64 e]/\aq m' [p',m]/\aaQ p' a (N.WI x):=by
 have wq:cL m mm:=hs.sub (by simp);obtain⟨mb,clock,rs,ps,hO⟩:=h.op hs;refine c7 c32 Tryz.func32 ?_;conv=>whnf
 refine aP (Qp (hS.sub wq) (hx.sub wq) ho hl) ?_;rintro _ m1⟨v,pv,rfl,bM,hv⟩;conv=>whnf
 have hx1:aq m1 (pv::blk1 a (ua mb N)::blk1 mb (nk MF (rs.map r8) clock)::m::ps):=aq.jN (a:=[pv]) bM hO.sp;have hO1:gg m1 m a N mb clock rs ps:=⟨hx1.drop,hO.rw,hO.e,hO.bn,hO.bd,hO.ku,hO.n⟩
 first|refine fU (Al hO1) ?_ |refine bt (Al hO1) ?_
 conv=>whnf
 refine xN ?_;conv=>whnf
 by_cases hr:dR x=true;rotate_left
 ·rw[if_neg hr]
  refine xY ?_;conv=>whnf
  obtain⟨p',g1,g2⟩:=hO1.cl;refine⟨_,p',rfl,g1,?_⟩;rw[mi.WI,aC (by simpa using hr)];exact g2
 rw[aC hr]at hv⊢;refine xN ?_;conv=>whnf
 refine xM hO1.o ?_;conv=>whnf
 refine⟨_,_,_,hO1.o,⟨by simp,by simp⟩,?_⟩;conv=>whnf
 have hO2:=hO1.upd (N':={N with put:=IntKind.i64.wrap (N.put+1)}) rfl;have Be:=hx1.gu (i:=1) rfl (aG ..) (ua mb {N with put:=IntKind.i64.wrap (N.put+1)});rw[cJ]at Be;refine aP (aoM hO2) ?_;rintro _ m3⟨rfl,apr⟩;conv=>whnf
 have hx3:aq m3 (pv::blk1 a (ua mb {N with put:=IntKind.i64.wrap (N.put+1)})::blk1 mb (nk MF (rs.map r8) clock)::m::ps):=Be.grow apr;have hO3:gg m3 m a {N with put:=IntKind.i64.wrap (N.put+1)} mb clock rs ps:=⟨hx3.drop,hO2.rw,hO2.e,hO2.bn,hO2.bd,hO2.ku,hO2.n⟩;apply bI<;>intro h1
 ·have h1:2000<=sa N.E:=by have h2:((sa N.E:Nat):Int)>=2000:=ah h1;omega
  conv=>whnf
  refine xM hO3.o ?_;conv=>whnf
  refine⟨_,_,_,hO3.o,⟨by simp,by simp⟩,?_⟩;conv=>whnf
  have hO4:=hO3.upd (N':={N with put:=IntKind.i64.wrap (N.put+1),fQ:=IntKind.i64.wrap (N.fQ+1)}) rfl;obtain⟨p',g1,g2⟩:=hO4.cl;refine⟨_,p',rfl,g1,?_⟩;rw[mi.WI,if_neg (by rw[hr];simp),aC h1];exact g2
 have h1:sa N.E<2000:=by have h2:¬((sa N.E:Nat):Int)>=2000:=aj h1;omega
 obtain⟨v0,ms,po,R,hf,hg,auh,Zz,eP,yC⟩:=hO3.azs hx3 (x.fr,x.qe);conv=>whnf
 refine xM hO3.o ?_;conv=>whnf
 refine .mk _ (CC (x:=v)) ?_;rintro _ _⟨b5,mo,rfl,rfl⟩;conv=>whnf
 refine⟨yt hO3.o (aD.bT _ mo),?_⟩;conv=>whnf
 have eD:=eP.new mo (.cells #[v] 118);have hm5:=(aD.bT (.cells #[v] 118) mo) _ _ hO3.m;refine .mk _ (ah8 (P:=tP) anW (k:=(x.fr,x.qe)) (kc:=lkC (x.fr,x.qe)) Tryz.underlying122 aaE (z:=.v (.slice none 0 0)) lkZ rfl rfl hm5 (λe he=>by obtain⟨f,hf,rfl⟩:=aV.1 he;exact(hO3.ux hf).eF.one)) ?_;rintro _ m'⟨st,rfl,rfl,jj,ee,he1,he2,he3,he4⟩;conv=>whnf
 rw[hf]at he1 he4⊢;have gC:=eD.gu (i:=3) rfl (aG ..) (nk MF (uu (x.fr,x.qe) (.v v0) clock (rs.map r8)) (kS (x.fr,x.qe) clock (rs.map r8)));rw[cJ]at gC;refine .mk _ (aau (i:=1) (news:=[v]) gC rfl auh (.inr ⟨b5,0,1,1,_,_,_,rfl,gC.get (a:=blk1 b5 (.cells #[v] 118)) (by simp) (aG ..),rfl,aW _,λj u hu=>by simpa using hu,by simpa using hv.lb.one⟩) (by simp;omega)) ?_;rintro _ m7⟨v7,p7,rfl,iU,ho7⟩;conv=>whnf
 have hm7:m7 mb=some (nk MF (uu (x.fr,x.qe) (.v v0) clock (rs.map r8)) (kS (x.fr,x.qe) clock (rs.map r8))):=iU.get (a:=blk1 mb (nk MF (uu (x.fr,x.qe) (.v v0) clock (rs.map r8)) (kS (x.fr,x.qe) clock (rs.map r8)))) (by simp) (aG ..);refine .mk _ (ahJ (P:=tP) (x:=.v v7) hm7 (hO3.OE (x.fr,x.qe) v0) he1 he2 he3 he4 clock) ?_;rintro _ m' rfl;conv=>whnf
 have k8:=iU.gu (i:=3) rfl (aG ..) (nk MF (uu (x.fr,x.qe) (.v v7) clock (uu (x.fr,x.qe) (.v v0) clock (rs.map r8))) (kS (x.fr,x.qe) clock (rs.map r8)));rw[cJ,SZ]at k8;rw[SZ];obtain⟨rs',ps',hO8⟩:=yC _ {N with put:=IntKind.i64.wrap (N.put+1),E:=N7 (x.fr,x.qe) (k7 (x.fr,x.qe) N.E++[we x]) N.E} p7 v7 pv (v,we x) k8.drop ho7 ⟨hv,hb,Fc⟩ rfl h1;obtain⟨p',g1,g2⟩:=hO8.cl;refine⟨_,p',rfl,g1,?_⟩;rw[mi.WI,if_neg (by rw[hr];simp),if_neg (by omega)];exact g2
end
section
variable {mm q pn pt:aD}{ca na i:Nat}{C:NN}{tv:Value}{RT:List Rtd}{ps:List aD}{n:Int}{X:Jg}{N:fw}
theorem cN.ua(h:cN mm q ca na C tv RT pn pt ps):∃R,aq mm [pn,R]/\cL q R/\(∀m' pn' N',aq m' [pn',R]->aaQ pn' na N'->cN m' q ca na {C with vN:=N'} tv RT pn' pt ps):=by
 have h1:aq mm (pn::blk1 ca (qq C.c C.w na C.S tv)::pt::q::ps):=h.sp.fm (List.Perm.swap _ _ _);obtain⟨R,h2,h3,h4⟩:=aq.part h1;exact⟨R,h3,h2 q (by simp),λm' pn' N' hs hn=>⟨(h4 _ _ hs).fm (List.Perm.swap _ _ _),hn,h.t,h.te,h.ta,h.s,h.n,h.ok⟩⟩
theorem cN.nX{m' pt':aD}{tv':Value}{RT':List Rtd}{T:List (Int×Rv)}(h:cN mm q ca na C tv RT pn pt ps)(hs:aq m' (blk1 ca (qq C.c C.w na C.S tv)::pn::pt'::q::ps))(ht:Gw akw pt' tv' RT')(he:RT'.map (λr=>(r.1,r.2.1))=T)(ha:∀r∈RT',Ia q (.slice r.2.2.1 r.2.1.l.length r.2.2.2) r.2.1.l):cN (m'.set ca (qq C.c C.w na C.S tv')) q ca na {C with Yj:=T} tv' RT' pn pt' ps:=by
 have h1:=hs.set (aG ..) (qq C.c C.w na C.S tv');rw[cJ]at h1;exact⟨h1,h.vN,ht,he,ha,h.s,h.n,h.ok⟩
theorem ayx{m:aD}{x:gX}{s:iS}(h:IY x)(hx:gy m x s):jl (we x)/\(we x).length<=10000000:=by
 have DT:=hx.Th
 have hD:D32 x.dg:=by
  rcases hx.dg with h|⟨h,_⟩
  ·exact h.ok
  ·rw[h];intro d hd;cases hd
 have NW:(xw x.dg).length=x.dg.length*32:=by
  have:∀D:List (List Nat),D32 D->(xw D).length=D.length*32:=by
   intro D
   induction D with
   |nil=>intro _;rfl
   |cons d D ih=>
    intro h;have h1:=h d (by simp);have h2:=ih λy hy=>h y (by simp[hy]);simp only[xw,dw,ax,ae,mH]at h2⊢;rw[h2,h1];omega
  exact this _ hD
 have hpn:=h.ok.pn;have hdn:=h.ok.dn;have hk:=h.k;have CU:=qd x.pl;refine⟨?_,?_⟩
 ·have hbd:jl (xw x.dg):=IL λd hd=>WG (h.d.l d hd)
  have kW:jl (if x.kind=1 then nc x.jI else[]):=by
   split
   ·exact WG h.d.d
   ·intro y hy;cases hy
  exact(ju _).append ((ju _).append ((ju _).append ((ju _).append ((ju _).append (kW.append ((ju _).append ((Pf _).append ((ju _).append (hbd.append (HI _))))))))))
 ·have n1:=eI x.kind
  have n2:=eI x.fr;have n3:=eI x.qe;have n4:=eI x.qA;have n5:=eI x.part;have n6:=eI x.pl.length;have n7:=eI x.dg.length;have n8:=eI x.ca.length
  have n9:(if x.kind=1 then nc x.jI else[]).length<=32:=by
   split
   ·rw[mH,DT];exact aW _
   ·simp
  simp only[we,Wm.t1,Wm.t2,Wm.t3,Wm.t4,Wm.t5,Wm.t6,Wm.t7,Wm.t8,Wm.t9,B3,ax]at*;omega
def NN.asJ(C:NN)(i:Nat)(X:Jg)(N:fw):NN:={C with S:=C.S.set i (.up X N.uo.AA),Yj:=C.Yj++N.BI.map λa=>((i:Int)+1,a),vN:=N.Nb.foldl mi.WI C.vN}
theorem alV(hg:cK q)(hC:cN mm q ca na C tv RT pn pt ps)(hi:C.S[i]?=some (.up X N)) (hO:N.B.dE.length<=1000) (hA:N.B.o7.length<=1000) (hT:RT.length<=100000)
  (hM:∀x∈N.Nb,IY x):
  bi tP 9 [cx ca,i64 ((i:Int)+1)] mm λr m'=>r=[i64 (N.Nb.length:Nat),i64 0]/\apT m' q ca na (C.asJ i X N):=by
 obtain⟨pi,j,h1,h2,h3,h4⟩:=hC.node hi;have hi8:=(hC.kb.lt hi).1;refine c7 c9 Tryz.func9 ?_;conv=>whnf
 first|refine fU (N6 hC.kb hi) ?_ |refine bt (N6 hC.kb hi) ?_
 conv=>whnf
 refine xN ?_;conv=>whnf
 first|refine fU (aN hC.kb hi) ?_ |refine bt (aN hC.kb hi) ?_
 conv=>whnf
 refine aP (bi.frame h3 (Hb h2 h1 hA)) ?_;rintro _ m1⟨j1,⟨v1,p1,q1,R1,rfl,g1,g2,g3,g4,g5,g6⟩,bM⟩;conv=>whnf
 have hB:=hC.oF hi h4 bM g1 g2 (s':=.up X N.uo) g3 rfl rfl
 have hR1:R1.length<=1000:=by
  have e:=be List.length g5;rw[aH]at e
  have:N.BI.length<=N.B.o7.length:=by
   show((N.B.o7.filter _).map _).length<=_
   rw[aH];exact bC _ _
  omega
 obtain⟨a1,c1,rfl⟩:=g4.shape;refine .mk (ι:=Nat) (λk=>R1.length-k) (λk m'=>k<=R1.length/\∃tv' RT' pt',cN m' q1 ca na {(C.at i (.up X N.uo))with Yj:=C.Yj++(R1.take k).map λr=>((i:Int)+1,r.1)} tv' RT' pn pt' (ps.set i p1)/\RT'.length=RT.length+k) (λk=>[(0,.c (cx ca)),(1,.c (i64 ((i:Int)+1))),(21,.c (.v (.slice a1 R1.length c1))),(22,.c (i64 R1.length)),(23,.c (i64 k))]) (λ_=>[]) 0 ⟨by omega,tv,RT,pt,by rw[adQ,lK,cO];exact hB,rfl⟩ ?_ ?_
 ·conv=>whnf
  exact Ra
 rintro k m2⟨hk,tv2,RT2,pt2,hC2,Td⟩;conv=>whnf
 apply bI<;>intro h
 ·have bH:k<R1.length:=by have:=ah h;omega
  obtain⟨b5,o5,c5,e5,hg5⟩:=g4.real bH;injection e5 with e51 _ e53;subst e51 e53;have hg5:=hg5 k bH;have dI:R1.take (k+1)=R1.take k++[R1[k]]:=au bH;have ha5:=g6 R1[k] (aO bH);generalize R1[k]=r at*;have rO:=hC2.gM;conv=>whnf
  repeat (refine xS ?_;conv=>whnf)
  refine⟨r.1.L r.2,⟨rfl,rfl,rfl,trivial⟩,rfl,by simp only[bK,aA];exact hg5.sub rO,?_⟩;conv=>whnf
  refine⟨_,aF hC2.o rfl,hC2.one,?_⟩;conv=>whnf
  refine .mk _ (AL (t:=akw) (e:=((i:Int)+1,r)) rfl) ?_;rintro _ _⟨b6,Xl,rfl,rfl⟩;conv=>whnf
  refine⟨yt hC2.o (aD.bT _ Xl),?_⟩;conv=>whnf
  refine .mk _ (Az (t:=akw) (i:=2) (x:=((i:Int)+1,r)) hC2.sp rfl Xl hC2.t (by omega)) ?_;rintro _ m3⟨y',p',rfl,dy,tZ⟩;conv=>whnf
  have dy:aq m3 (blk1 ca (qq C.c C.w na (C.S.set i (.up X N.uo)) tv2)::pn::p'::q1::ps.set i p1):=dy;refine⟨_,_,_,dy.get (a:=blk1 ca (qq C.c C.w na (C.S.set i (.up X N.uo)) tv2)) (by simp) (aG ..),⟨by simp,by simp⟩,?_⟩;conv=>whnf
  refine⟨k+1,⟨by omega,y',RT2++[((i:Int)+1,r)],p',hC2.nX dy tZ ?_ ?_,by rw[ax,Td];rfl⟩,by omega,?_⟩
  ·rw[dI,bD,hC2.te,bD,aX]
   rfl
  ·intro z hz
   rcases aR.1 hz with hz|hz
   ·exact hC2.ta z hz
   ·rw[aL.1 hz];exact ha5
  ·conv=>whnf
   exact Ra
 ·have hkk:k=R1.length:=by have:=aj h;omega
  subst hkk;rw[aJ]at hC2;have hi2:(C.S.set i (.up X N.uo))[i]?=some (.up X N.uo):=y1 (aQ.1 hi).1;obtain⟨pi2,j2,f1,f2,f3,f4⟩:=hC2.node hi2;conv=>whnf
  first|refine fU (aN hC2.kb hi2) ?_ |refine bt (aN hC2.kb hi2) ?_
  conv=>whnf
  refine aP (bi.frame f3 (Lh f2 f1 hO)) ?_;rintro _ m3⟨j3,⟨v3,p3,q3,R3,rfl,k1,k2,k3,k4,k5,k6⟩,dy⟩;conv=>whnf
  have hB3:=hC2.oF hi2 f4 dy k1 k2 (s':=.up X N.uo.AA) k3 rfl rfl
  have hB3:cN m3 q3 ca na {C with S:=C.S.set i (.up X N.uo.AA),Yj:=C.Yj++N.BI.map λa=>((i:Int)+1,a)} tv2 RT2 pn pt2 ((ps.set i p1).set i p3):=by
   simp only[NN.at,List.set_set]at hB3;rw[<-g5,fS,List.set_set];exact hB3
  have hR3:R3.length<=1000:=by
   have e:=be List.length k5;rw[aH]at e
   have:N.uo.Nb.length<=N.uo.B.dE.length:=by
    show((N.uo.B.dE.filter _).map _).length<=_
    rw[aH];exact bC _ _
   have h2:N.uo.B.dE=N.B.dE:=rfl;rw[h2]at this;omega
  have k5:R3.map (·.1)=N.Nb:=k5;obtain⟨a3,c3,rfl⟩:=k4.shape;conv=>whnf
  refine .mk (ι:=Nat) (λk=>R3.length-k) (λk m'=>k<=R3.length/\∃pn',cN m' q3 ca na {C with S:=C.S.set i (.up X N.uo.AA),Yj:=C.Yj++N.BI.map λa=>((i:Int)+1,a),vN:=((R3.take k).map (·.1)).foldl mi.WI C.vN} tv2 RT2 pn' pt2 ((ps.set i p1).set i p3)) (λk=>[(0,.c (cx ca)),(9,.c (.v (.slice a3 R3.length c3))),(44,.c (.v (.slice a3 R3.length c3))),(45,.c (i64 R3.length)),(46,.c (i64 k))]) (λ_=>[]) 0 ⟨by omega,pn,hB3⟩ ?_ ?_
  ·conv=>whnf
   exact Ra
  rintro k m4⟨hk,pn4,hC4⟩;conv=>whnf
  apply bI<;>intro h
  ·have bH:k<R3.length:=by have:=ah h;omega
   obtain⟨b5,o5,c5,e5,hg5⟩:=k4.real bH;injection e5 with e51 _ e53;subst e51 e53;have hg5:=hg5 k bH;have dI:R3.take (k+1)=R3.take k++[R3[k]]:=au bH;have hMk:=k6 R3[k] (aO bH);have hOk:=hM R3[k].1 (by rw[<-k5];exact aV.2 ⟨_,aO bH,rfl⟩);generalize R3[k]=r at*;obtain⟨x,s⟩:=r;simp only at hMk hOk
   have he:Xp (x,s)=LB.cz (x.L s):=by
    show LB.cz (gX.L {x with jI:=p32 x.jI} s)=_
    rw[akz hMk.Th]
   have hg5:dQ q3 b5 (o5+k*40) (LB.cz (x.L s)):=by rw[<-he];exact hg5
   obtain⟨kW,oM⟩:=ayx hOk hMk;obtain⟨R,n1,n2,n3⟩:=hC4.ua;conv=>whnf
   repeat (refine xS ?_;conv=>whnf)
   refine⟨x.L s,wb hMk.Th,rfl,by simp only[bK,aA];exact hg5.sub hC4.gM,?_⟩;conv=>whnf
   refine xM hC4.o ?_;conv=>whnf
   refine aP (aoH (x:=x) (s:=s) hC4.vN n1 ((hg.sub (g2.trans k2)).sub n2) (hMk.sub n2) hOk.ok hOk.k kW oM) ?_;rintro _ m5⟨e,p',rfl,eD,w6⟩;conv=>whnf
   try refine⟨λ_ h=>(by cases h),?_⟩
   conv=>whnf
   refine⟨k+1,⟨by omega,p',?_⟩,by omega,?_⟩
   ·have:=n3 m5 p' _ eD w6
    rw[dI,bD,iT];exact this
   ·conv=>whnf
    exact Ra
  ·have hkk:k=R3.length:=by have:=aj h;omega
   subst hkk;rw[aJ,k5]at hC4;conv=>whnf
   refine⟨?_,hC4.l (g2.trans k2)⟩;rw[<-k5,aH]
theorem asq{S:List eT}{s':eT}(h:i<S.length):nvs (S.set i s')= λk=>if k=i then s'.nv else nvs S k:=by
 funext k
 unfold nvs;by_cases hk:k=i
 ·subst hk;rw[y1 h,aC rfl];rfl
 ·rw[LK (Ne.symm hk),if_neg hk]
theorem cN.swap{m' j' q' pi pi':aD}{s s':eT}(h:cN mm q ca na C tv RT pn pt ps)(hi:C.S[i]?=some s) (hp:ps[i]?=some pi) (hs:aq m' (j'::blk1 ca (LA C.c C.w (.pointer (some ⟨na,0,none⟩)) (fvs C.S) (λk=>if k=i then s'.nv else nvs C.S k) tv)::pn::pt::ps.eraseIdx i)) (hj:aq j' [pi',q']) (hq:cL q q') (qW:M2 q' C.qt pi' s') (hf:s'.fv=s.fv):cN m' q' ca na (C.at i s') tv RT pn pt (ps.set i pi'):=by
 have h1:aq m' (pi'::q'::blk1 ca (LA C.c C.w (.pointer (some ⟨na,0,none⟩)) (fvs C.S) (λk=>if k=i then s'.nv else nvs C.S k) tv)::pn::pt::ps.eraseIdx i):=aq.tQ hs hj;have h2:=h1.fm (List.Perm.cons _ (ks (l₁:=[blk1 ca (LA C.c C.w (.pointer (some ⟨na,0,none⟩)) (fvs C.S) (λk=>if k=i then s'.nv else nvs C.S k) tv),pn,pt]) (l₂:=ps.eraseIdx i)).symm);have h3:=aq.Gb (l:=blk1 ca (LA C.c C.w (.pointer (some ⟨na,0,none⟩)) (fvs C.S) (λk=>if k=i then s'.nv else nvs C.S k) tv)::pn::pt::q'::ps) (i:=i+4) (p:=pi) (by simpa using hp) h2;have e1:fvs (C.S.set i s')=fvs C.S:=RC hi hf;have e2:nvs (C.S.set i s')= λk=>if k=i then s'.nv else nvs C.S k:=asq (aQ.1 hi).1
 refine⟨?_,h.vN,h.t,h.te,amu h.ta hq,(N0 h.s hq).set qW,by show(C.S.set i s').length=_;rw[fc];exact h.n,h.ok⟩
 show aq m' (blk1 ca (LA C.c C.w _ (fvs (C.S.set i s')) (nvs (C.S.set i s')) tv)::_)
 rw[e1,e2];exact h3
def ass(y:gX):vF:=⟨5,0,ByteArray.empty,(0,0,0),0,y⟩
theorem alX{kk:Nat}{vl:Value}{dO:List Int}(hC:cN mm q ca na C tv RT pn pt ps)(hi:C.S[i]?=some (.up X N)) (hk:Sm kk N.A N.nb N.ns) (hv:Ia q vl dO) (hl:dO.length<=9223372036854775807) (hI:∀x∈dO,-9223372036854775808<=x/\x<=9223372036854775807):
  bi tP 11 [cx ca,i64 ((i:Int)+1),.v vl] mm λr m'=>r=[i64 0]/\apT m' q ca na (C.at i (.down X.bf N.nb N.ns (aaI N.A dO))):=by
 obtain⟨pi,j,h1,h2,h3,h4⟩:=hC.node hi;have hi8:=(hC.kb.lt hi).1;have e:IntKind.i64.wrap ((i:Int)+1-1)=(i:Int):=by rw[wi];omega
 obtain⟨lv,pr,ps',pf,pb,pl,R,hn⟩:=y0.op h1 h2;refine ap Tryz.func11 ?_;conv=>whnf
 first|refine fU (N6 hC.kb hi) ?_ |refine bt (N6 hC.kb hi) ?_
 conv=>whnf
 refine xN ?_;conv=>whnf
 rw[e]
 repeat (refine xS ?_;conv=>whnf)
 refine⟨_,_,_,hC.o,⟨by simp only[bK,aA,dM,ae,cW];omega,by simp⟩,?_⟩;simp only[bK,aA,cD];obtain⟨n',OS⟩:∃n':Nat->Value,n'= λk=>if k=i then .pointer none else nvs C.S k:=⟨_,rfl⟩
 rw[aia hi8,<-OS];have eD:=h3.gu (i:=1) rfl (aG ..) (LA C.c C.w (.pointer (some ⟨na,0,none⟩)) (fvs C.S) n' tv);rw[cJ]at eD;have mo:=eD.get (a:=blk1 ca (LA C.c C.w (.pointer (some ⟨na,0,none⟩)) (fvs C.S) n' tv)) (by simp) (aG ..);have hcf:gR (mm.set ca (LA C.c C.w (.pointer (some ⟨na,0,none⟩)) (fvs C.S) n' tv)) ca (8+i)=some (.pointer (some ⟨X.bf,0,none⟩)):=aF mo ((avu hi8).trans (be some (arO hi)));conv=>whnf
 rw[e]
 repeat (refine xS ?_;conv=>whnf)
 refine⟨_,by simp only[bK,aA,cD];exact hcf,rfl,?_⟩;conv=>whnf
 have gC:=(((((aq.tQ eD hn.sp).dV 0).dV 0).dV 0).dV 1).dV 1;have gC:aq (mm.set ca (LA C.c C.w (.pointer (some ⟨na,0,none⟩)) (fvs C.S) n' tv)) (pf::q::blk1 ca (LA C.c C.w (.pointer (some ⟨na,0,none⟩)) (fvs C.S) n' tv)::pn::pt::ps.eraseIdx i):=gC;obtain⟨R',hR,iU,yC⟩:=aq.part gC;refine aP (apY (dO:=dO) hn.f iU hk (hv.sub ((hR q (by simp)))) hl hI) ?_;rintro _ m8⟨Va,rfl,k8,U9⟩;conv=>whnf
 obtain⟨g1,g2⟩:=aq.k9 [Va,q] (yC _ _ k8);rw[OS]at g1;exact⟨rfl,(hC.swap hi h4 (s':=.down X.bf N.nb N.ns (aaI N.A dO)) g1 g2 (cL.refl q) U9 rfl).l (cL.refl q)⟩
theorem aiI{D:Jg->fw->Prop}{bf nb ns:Nat}{A:List Af}(hC:cN mm q ca na C tv RT pn pt ps)(hi:C.S[i]?=some (.down bf nb ns A))
  (hD:∀{j pi:aD},aq j [pi,q]->FA pi bf C.qt nb ns A->bi tP 28 [.a (Sq C.c C.w),i64 ((i:Int)+1),fy bf] j λr m'=>∃X p' q' N',r=[cx X.a,i64 0]/\X.bf=bf/\aq m' [p',q']/\cL q q'/\y0 p' q' X C.qt N'/\D X N'):
  bi tP 12 [cx ca,i64 ((i:Int)+1)] mm λr m'=>∃X N',r=[i64 0]/\D X N'/\apT m' q ca na (C.at i (.up X N')):=by
 obtain⟨pi,j,h1,h2,h3,h4⟩:=hC.node hi;have hi8:=(hC.kb.lt hi).1;have e:IntKind.i64.wrap ((i:Int)+1-1)=(i:Int):=by rw[wi];omega
 have hcf:gR mm ca (8+i)=some (.pointer (some ⟨bf,0,none⟩)):=aF hC.o ((avu hi8).trans (be some (arO hi)));refine c7 c12 Tryz.func12 ?_;conv=>whnf
 first|refine fU (ct hC.kb) ?_ |refine bt (ct hC.kb) ?_
 conv=>whnf
 refine xN ?_;conv=>whnf
 first|refine fU (ry hC.kb hi) ?_ |refine bt (ry hC.kb hi) ?_
 conv=>whnf
 refine xN ?_;conv=>whnf
 first|refine fU (aN hC.kb hi) ?_ |refine bt (aN hC.kb hi) ?_
 conv=>whnf
 refine xN ?_;conv=>whnf
 refine⟨Sq C.c C.w,⟨rfl,rfl,rfl,rfl,rfl,rfl,rfl,trivial⟩,rfl,ams hC.o,?_⟩;conv=>whnf
 rw[e]
 repeat (refine xS ?_;conv=>whnf)
 refine⟨_,by simp only[bK,aA,cD];exact hcf,rfl,?_⟩;conv=>whnf
 refine aP (bi.frame h3 (hD h2 h1)) ?_;rintro _ m5⟨j',⟨X,p',q',N',rfl,hbf,g1,g2,g3,g4⟩,eD⟩;conv=>whnf
 refine xY ?_;conv=>whnf
 rw[e]
 repeat (refine xS ?_;conv=>whnf)
 have mo:=eD.get (a:=blk1 ca (qq C.c C.w na C.S tv)) (by simp) (aG ..);refine⟨_,_,_,mo,⟨by simp only[bK,aA,dM,ae,cW];omega,by simp⟩,?_⟩;simp only[bK,aA,cD];obtain⟨n',OS⟩:∃n':Nat->Value,n'= λk=>if k=i then .pointer (some ⟨X.a,0,none⟩)else nvs C.S k:=⟨_,rfl⟩
 rw[aia hi8,<-OS];have gC:=eD.gu (i:=1) rfl (aG ..) (LA C.c C.w (.pointer (some ⟨na,0,none⟩)) (fvs C.S) n' tv);rw[cJ]at gC;conv=>whnf
 rw[OS]at gC⊢;exact⟨X,N',rfl,g4,(hC.swap hi h4 (s':=.up X N') gC g1 g2 g3 (by show Value.pointer (some ⟨X.bf,0,none⟩)= .pointer (some ⟨bf,0,none⟩);rw[hbf])).l g2⟩
theorem afJ(hC:cN mm q ca na C tv RT pn pt ps)(hi:C.S[i]?=some (.up X N)):eN tP 12 [cx ca,i64 ((i:Int)+1)] mm [i64 10]:=by
 refine c7 c12 Tryz.func12 ?_;conv=>whnf
 first|refine fU (ct hC.kb) ?_ |refine bt (ct hC.kb) ?_
 conv=>whnf
 refine xN ?_;conv=>whnf
 first|refine fU (ry hC.kb hi) ?_ |refine bt (ry hC.kb hi) ?_
 conv=>whnf
 refine xN ?_;conv=>whnf
 first|refine fU (aN hC.kb hi) ?_ |refine bt (aN hC.kb hi) ?_
 conv=>whnf
 refine xY ?_;conv=>whnf
 exact rR
end
section
variable {mm q pn pt:aD}{ca na i i0:Nat}{C:NN}{tv:Value}{RT:List Rtd}{ps:List aD}{f:Int}{X:Jg}{N:fw}{y:gX}
theorem cN.ayw{m1 pm p' R:aD}{N':mi}(n3:∀m' pn' N',aq m' [pn',R]->aaQ pn' na N'->cN m' q ca na {C with vN:=N'} tv RT pn' pt ps)(hs:aq m1 [pm,p',R])(hN:aaQ p' na N'):∃q1,cL q q1/\cL pm q1/\cN m1 q1 ca na {C with vN:=N'} tv RT p' pt ps:=by
 obtain⟨u1,u2⟩:=aq.k9 [p',R] (l:=[pm]) (hs.ir [1,2,0]);exact(n3 _ p' _ u2 hN).xn (u1.ir [1,0])
theorem aiK{D:fw->XL->Prop}(hg:cK q)(hC:cN mm q ca na C tv RT pn pt ps)(hi:C.S[i]?=some (.up X N)) (hm:i0<(k7 (f,(i:Int)+1) C.vN.E).length) (hr:sg ((k7 (f,(i:Int)+1) C.vN.E)[i0])=(y,0))
  (hD:∀{q' j pi:aD}{s:iS},cL q q'->aq j [pi,q']->y0 pi q' X C.qt N->gy q' y s->qx y->(∀c∈y.ca,aiL c)->bi tP 35 [cx X.a,JD (ass y) s] j λr m'=>∃N' z,D N' z/\NdR m' q' X C.qt N' z r):
  bi tP 10 [cx ca,i64 f,i64 ((i:Int)+1),i64 (i0:Nat)] mm λr m'=>∃N' z,r=[i64 z.err]/\D N' z/\apT m' q ca na {C.at i (.up X N')with vN:=C.vN.akA (f,(i:Int)+1) i0}:=by
 obtain⟨R,n1,n2,n3⟩:=hC.ua;have qn:(sg ((k7 (f,(i:Int)+1) C.vN.E)[i0])).1=y:=by rw[hr]
 have jK:(sg ((k7 (f,(i:Int)+1) C.vN.E)[i0])).2=0:=by rw[hr]
 have hT:=ahT hC.vN n1 (hg.sub n2) hm;rw[qn,jK]at hT;refine c7 c10 Tryz.func10 ?_;conv=>whnf
 first|refine fU (ct hC.kb) ?_ |refine bt (ct hC.kb) ?_
 conv=>whnf
 refine xN ?_;conv=>whnf
 refine xM hC.o ?_;conv=>whnf
 refine aP (hT) ?_;rintro _ m1⟨s,p',pm,rfl,bM,hN,hMa,hMo,hG⟩;conv=>whnf
 obtain⟨q1,mQ,hpm,hC2⟩:=cN.ayw n3 bM hN;refine xN ?_;conv=>whnf
 first|refine fU (aN hC2.kb hi) ?_ |refine bt (aN hC2.kb hi) ?_
 conv=>whnf
 refine xN ?_;conv=>whnf
 obtain⟨pi,j,h1,h2,h3,h4⟩:=hC2.node hi
 first|refine fU (aN hC2.kb hi) ?_ |refine bt (aN hC2.kb hi) ?_
 conv=>whnf
 refine aP (bi.frame h3 (hD mQ h2 h1 (hMa.sub hpm) hMo hG)) ?_;rintro _ m'⟨j',⟨N',z,hd,hz⟩,hs⟩;conv=>whnf
 obtain⟨p5,q5,ea,ec,la,lc,rfl,g1,g2,g3,g4⟩:=hz.ex;conv=>whnf
 have hB:=hC2.oF hi h4 hs g1 g2 (s':=.up X N') g3 rfl rfl;exact⟨N',z,rfl,hd,hB.l (mQ.trans g2)⟩
theorem aiR{bf nb ns:Nat}{A:List Af}(hg:cK q)(hC:cN mm q ca na C tv RT pn pt ps)(hi:C.S[i]?=some (.down bf nb ns A)) (hm:i0<(k7 (f,(i:Int)+1) C.vN.E).length) (hr:(sg ((k7 (f,(i:Int)+1) C.vN.E)[i0])).2=0):
  bi tP 10 [cx ca,i64 f,i64 ((i:Int)+1),i64 (i0:Nat)] mm λr m'=>r=[i64 15]/\apT m' q ca na {C with vN:=C.vN.akA (f,(i:Int)+1) i0}:=by
 obtain⟨R,n1,n2,n3⟩:=hC.ua;have hT:=ahT hC.vN n1 (hg.sub n2) hm;rw[hr]at hT;refine c7 c10 Tryz.func10 ?_;conv=>whnf
 first|refine fU (ct hC.kb) ?_ |refine bt (ct hC.kb) ?_
 conv=>whnf
 refine xN ?_;conv=>whnf
 refine xM hC.o ?_;conv=>whnf
 refine aP (hT) ?_;rintro _ m1⟨s,p',pm,rfl,bM,hN,hMa,hMo,hG⟩;conv=>whnf
 obtain⟨q1,mQ,hpm,hC2⟩:=cN.ayw n3 bM hN;refine xN ?_;conv=>whnf
 first|refine fU (aN hC2.kb hi) ?_ |refine bt (aN hC2.kb hi) ?_
 conv=>whnf
 refine xY ?_;conv=>whnf
 exact⟨rfl,hC2.l mQ⟩
end
abbrev as9:Bk:=⟨0,0,0,0⟩
abbrev asR:Obj:=LA ⟨0,0,0⟩ as9 (.pointer none) (λ_=>.pointer none) (λ_=>.pointer none) (.slice none 0 0)
section
variable {mm:aD}{n f t i:Int}{P:CV}{z:Nat}
theorem mv:eN tP 33 [aoW] mm [bR false]:=by
 refine ap Tryz.func33 ?_;conv=>whnf
 refine xN ?_;conv=>whnf
 exact rR
theorem nz(h:mm z=some asR):eN tP 33 [cx z] mm [bR false]:=by
 refine ap Tryz.func33 ?_;conv=>whnf
 refine xY ?_;conv=>whnf
 refine xM h ?_;conv=>whnf
 exact rR
variable (hm:eN tP 33 [P] mm [bR false])
include hm
theorem aqc:eN tP 37 [P,i64 n] mm [bR false]:=by
 refine ap Tryz.func37 ?_;conv=>whnf
 first|refine fU (hm) ?_ |refine bt (hm) ?_
 conv=>whnf
 refine xN ?_;conv=>whnf
 exact rR
theorem anU:eN tP 15 [P,i64 n] mm [.v (.pointer none)]:=by
 refine ap Tryz.func15 ?_;conv=>whnf
 first|refine fU (aqc hm) ?_ |refine bt (aqc hm) ?_
 conv=>whnf
 refine xY ?_;conv=>whnf
 exact rR
theorem an5:eN tP 29 [P,i64 n] mm [i64 6]:=by
 refine ap Tryz.func29 ?_;conv=>whnf
 first|refine fU (hm) ?_ |refine bt (hm) ?_
 conv=>whnf
 refine xY ?_;conv=>whnf
 exact rR
theorem akc:eN tP 9 [P,i64 n] mm [i64 0,i64 6]:=by
 refine c7 c9 Tryz.func9 ?_;conv=>whnf
 first|refine fU (an5 hm) ?_ |refine bt (an5 hm) ?_
 conv=>whnf
 refine xY ?_;conv=>whnf
 exact rR
theorem R7:eN tP 10 [P,i64 f,i64 t,i64 i] mm [i64 6]:=by
 refine c7 c10 Tryz.func10 ?_;conv=>whnf
 first|refine fU (hm) ?_ |refine bt (hm) ?_
 conv=>whnf
 refine xY ?_;conv=>whnf
 exact rR
theorem aqf{v:Value}:eN tP 11 [P,i64 n,.v v] mm [i64 6]:=by
 refine ap Tryz.func11 ?_;conv=>whnf
 first|refine fU (an5 hm) ?_ |refine bt (an5 hm) ?_
 conv=>whnf
 refine xY ?_;conv=>whnf
 exact rR
theorem alC:eN tP 12 [P,i64 n] mm [i64 6]:=by
 refine c7 c12 Tryz.func12 ?_;conv=>whnf
 first|refine fU (hm) ?_ |refine bt (hm) ?_
 conv=>whnf
 refine xY ?_;conv=>whnf
 exact rR
theorem zdo{x:vF}{s:iS}:eN tP 13 [P,i64 n,JD x s] mm [.a (agk (Cq 6) none 0 none 0)]:=by
 refine c7 c13 Tryz.func13 ?_;conv=>whnf
 first|refine fU (an5 hm) ?_ |refine bt (an5 hm) ?_
 conv=>whnf
 refine xY ?_;conv=>whnf
 exact rR
end
section
variable {mm:aD}{z:Nat}
theorem ayg:eN tP 14 [aoW] mm [.v (.pointer none)]:=by
 refine ap Tryz.func14 ?_;conv=>whnf
 refine xY ?_;conv=>whnf
 exact rR
theorem atb:eN tP 18 [aoW] mm [.a (Sq ⟨0,0,0⟩ as9)]:=by
 refine ap Tryz.func18 ?_;conv=>whnf
 refine xY ?_;conv=>whnf
 exact rR
theorem ajm:eN tP 17 [aoW] mm [.v (.slice none 0 0)]:=by
 refine ap Tryz.func17 ?_;conv=>whnf
 refine xY ?_;conv=>whnf
 exact rR
theorem ahP(h:mm z=some asR):eN tP 17 [cx z] mm [.v (.slice none 0 0)]:=by
 have hc:eN tP 38 [.v (.slice none 0 0)] mm [.v (.slice none 0 0)]:=by
  refine ap Tryz.func38 ?_;conv=>whnf
  refine xY ?_;conv=>whnf
  exact rR
 refine ap Tryz.func17 ?_;conv=>whnf
 refine xN ?_;conv=>whnf
 refine xM h ?_;conv=>whnf
 first|refine fU (hc) ?_ |refine bt (hc) ?_
 conv=>whnf
 refine .mk (ι:=Nat) (λi=>i) (λi m'=>i=0/\m'=mm) (λi=>[(3,.c (.v (.slice none 0 0))),(13,.c (i64 0)),(14,.c (i64 0))]) (λ_=>[]) 0 ⟨rfl,rfl⟩ ?_ ?_
 ·conv=>whnf
  exact Ra
 rintro i m2⟨rfl,rfl⟩;conv=>whnf
 refine xN ?_;conv=>whnf
 exact rR
theorem zup:eN tP 16 [aoW] mm [.v (.slice none 0 0)]:=by
 refine ap Tryz.func16 ?_;conv=>whnf
 refine .mk (ι:=Nat) (λi=>8-i) (λi m'=>i<=8/\m'=mm) (λi=>[(0,.c aoW),(3,.c (.v (.slice none 0 0))),(5,.c (i64 i))]) (λ_=>[]) 0 ⟨by omega,rfl⟩ ?_ ?_
 ·conv=>whnf
  exact Ra
 rintro i m2⟨hi,he⟩;subst he;conv=>whnf
 apply bI<;>intro h1
 ·have h1:=ah h1
  conv=>whnf
  first|refine fU (anU mv) ?_ |refine bt (anU mv) ?_
  conv=>whnf
  refine xN ?_;conv=>whnf
  refine⟨i+1,⟨by omega,rfl⟩,by omega,?_⟩;conv=>whnf
  exact Ra
 ·conv=>whnf
  exact rR
end
theorem al1{bf bm:Nat}{q:Int}(h:aq m [blk1 bf (jd q bm 0 0),blk1 bm (mU [] 0)]):FA m bf q 0 0 []:=⟨bm,0,[],⟨h,by simp,by simp,by simp⟩,rfl⟩
theorem Qk{q:Int}(h:0<=q):bi tP 27 [i64 q] m λr m'=>∃bf p,r=[fy bf,i64 0]/\aq m' [p,m]/\FA p bf q 0 0 []:=by
 refine c7 c27 Tryz.func27 ?_;refine⟨λh'=>absurd (ah h') (by omega),λ_=>?_⟩;refine .mk _ (wh (enc:=Value.string)) ?_;rintro _ m1⟨bm,EO,rfl,rfl⟩;intro bf hbf;have hs:=((aq.one m).new EO (mU [] 0)).new hbf (jd q bm 0 0);have hs:=hs.fm (l':=[m,blk1 bf (jd q bm 0 0),blk1 bm (mU [] 0)]) (by exact(List.Perm.cons _ (List.Perm.swap _ _ _)).trans (List.Perm.swap _ _ _));exact⟨bf,_,rfl,(aq.fb hs).1,al1 (aq.fb hs).2⟩
variable {mm p q:aD}{X:Jg}{qt:Int}{N:fw}{j k:Nat}
theorem X4:dN [] 0=0:=by have:=uN [] 0;simpa using this
theorem ame(q:Int):CI q [] 0 [] [] 0 where
 gp:=by simp
 gr:=by simp
 gb:=by omega
 sn:=by omega
 s0:=λ_=>rfl
 lg:=.inl ⟨rfl,rfl,rfl⟩
 nl:=λ_ _ _=>rfl
 nn:=λ_ _ _=>rfl
 qt:=λh=>by simp[iP];omega
def cy(c:Rc)(w:Bk)(n:Int)(ns:Nat):fw:=agR c w n ⟨0,[],[],0,0⟩ [] 0 ns
variable{c:Rc}{w:Bk}{n:Int}
theorem axf{ns:Nat}(hf:FI qt [] ⟨0,[],[],0,0⟩)(hq:0<=qt/\qt<=9223372036854775807)(NQ:ns<=2):pO qt 0 2 (cy c w n ns):=
 ⟨hf,hq,by show 0+0<=0;omega,by show ∀a∈([]:List Af),_;simp,by show 0+(if ([]:List Kd)=[]then 1 else 0)<=2;simp,by show 0<=_;omega,by show ns<=2;omega,(λa ha=>by cases ha),by show 0+1<=2;omega⟩
theorem abe{pf:aD}{bf ns0:Nat}(hg:jZ m)(hs:aq mm [pf,m])(hf:FA pf bf qt 0 ns0 [])(NQ:ns0<=100)(hq:0<=qt/\qt<=9223372036854775807)(h1:c.ok=true)(h2:w.ok=true)(h3:1<=n/\n<=c.jv):
  bi tP 28 [.a (Sq c w),i64 n,fy bf] mm λrr m'=>∃X ub p' q',rr=[cx X.a,i64 0]/\X.bf=bf/\aq m' [p',q']/\cL m q'/\y0 p' q' X qt (cy c w n ub)/\ub<=ns0+1/\FI qt [] ⟨0,[],[],0,0⟩:=by
 refine(Uw (kk:=1000) (n:=n) hg hs hf ⟨by simp,by simp,by omega,by omega,by omega⟩ (λa ha=>by simp at ha) (ame qt) (by omega) hq (by omega) (by simp) h1 h2 h3).mono λrr m' ⟨X,ub,A',p',q',h1,h2,h3,h4,h5,h6,h7,h8,h9⟩=>?_;have hA:=h9 rfl;subst hA;have ho:eE 0 [] [] 0=⟨0,[],[],0,0⟩:=by unfold eE;rw[X4];rfl
 rw[ho]at h5 h6;exact⟨X,ub,p',q',h1,h2,h3,h4,h5,h7,h6⟩
def Frs(c:Rc)(w:Bk)(S:List eT):Prop:=∀(i:Nat) s,S[i]?=some s->∃X ub,s= .up X (cy c w ((i:Int)+1) ub)/\pO 0 0 2 (cy c w ((i:Int)+1) ub)
theorem arN(S:List eT)(s:eT)(j:Nat):fvs (S++[s]) j=if j=S.length then s.fv else fvs S j:=by
 unfold fvs;rcases Nat.lt_trichotomy j S.length with h|h|h
 ·rw[if_neg (by omega),aT h]
 ·subst h;simp
 ·rw[if_neg (by omega),jr (by simp;omega),jr (by omega)]
theorem aqP(S:List eT)(s:eT)(j:Nat):nvs (S++[s]) j=if j=S.length then s.nv else nvs S j:=by
 unfold nvs;rcases Nat.lt_trichotomy j S.length with h|h|h
 ·rw[if_neg (by omega),aT h]
 ·subst h;simp
 ·rw[if_neg (by omega),jr (by simp;omega),jr (by omega)]
theorem ao4(p q a n:α)(P:List α):(p::q::a::n::P).Perm (a::n::q::(P++[p])):=by
 classical exact dP.2 λy=>by simp only[fE,nu,List.count_nil];ac_rfl
theorem ao2(a n q:α)(P:List α):(a::n::q::P).Perm (a::n::(P++[q])):=by
 classical exact dP.2 λy=>by simp only[fE,nu,List.count_nil];ac_rfl
theorem aoZ(e a n:α)(P:List α):(e::a::n::P).Perm (a::n::e::P):=by
 classical exact dP.2 λy=>by simp only[fE];ac_rfl
theorem alU(h:(c.ok&&w.ok)=false):eN tP 6 [.a (Sq c w),i64 qt] m [.v (.pointer none),i64 1]:=by
 refine c7 c6 Tryz.func6 ?_;conv=>whnf
 first|refine fU (qk) ?_ |refine bt (qk) ?_
 conv=>whnf
 rw[h];refine xY ?_;conv=>whnf
 exact rR
theorem ajs(hg:jZ m)(h1:c.ok=true)(h2:w.ok=true):
  bi tP 6 [.a (Sq c w),i64 0] m λr m'=>∃ca na S p' q',r=[cx ca,i64 0]/\aq m' [p',q']/\cL m q'/\apP p' q' ca na ⟨c,w,0,S,⟨[],0,0,0⟩,[]⟩/\Frs c w S:=by
 have h8:=(Rc.lj.1 h1).1;refine c7 c6 Tryz.func6 ?_;conv=>whnf
 first|refine fU (qk) ?_ |refine bt (qk) ?_
 conv=>whnf
 rw[h1,h2];refine xN ?_;conv=>whnf
 refine aP (aoK) ?_;rintro _ m1⟨na,pn,rfl,bM,hN⟩;conv=>whnf
 try refine⟨λ_ h=>(by cases h),?_⟩
 conv=>whnf
 intro ca Vf;conv=>whnf
 have bZ:=bM.new Vf (qq c w na [] (.slice none 0 0));refine .mk (ι:=Nat×List eT) (λi=>8-i.1) (λ⟨i,S⟩ mm=>i=S.length/\(i:Int)<=c.jv/\∃q' ps,aq mm (blk1 ca (qq c w na S (.slice none 0 0))::pn::q'::ps)/\cL m q'/\PL (M2 q' 0) ps S/\Frs c w S) (λ⟨i,S⟩=>[(1,.c (i64 0)),(2,.p 0 0),(6,.c (cx ca)),(20,.c (i64 c.jv)),(21,.c (i64 i))]) (λ_=>[(27,Sq c w)]) (0,[]) ⟨rfl,by show(0:Int)<=_;omega,m,[],bZ,cL.refl _,.nil,λi s h=>by simp at h⟩ ?_ ?_
 ·conv=>whnf
  exact Ra
 rintro⟨i,S⟩ mm ⟨hi,hle,q',ps,hs,hq,hp,hF⟩;conv=>whnf
 apply bI<;>intro h
 ·have bH:(i:Int)<c.jv:=ah h
  conv=>whnf
  refine aP (Qk (q:=0) (by omega)) ?_;rintro _ m4⟨bf,pf,rfl,eP,hf⟩;conv=>whnf
  have eD:aq m4 (pf::q'::blk1 ca (qq c w na S (.slice none 0 0))::pn::ps):=(aq.jN (a:=[pf]) eP hs).fm (List.Perm.cons _ (ks (l₁:=[blk1 ca (qq c w na S (.slice none 0 0)),pn]) (l₂:=ps)));obtain⟨j,hj,gC⟩:=aq.ad9 (k:=[pf,q']) eD;refine xN ?_;conv=>whnf
  have ei:IntKind.i64.wrap ((i:Int)+1)=(i:Int)+1:=wi;rw[ei];refine aP (bi.frame gC (abe (n:=(i:Int)+1) (hg.sub hq) hj hf (by omega) (by omega) h1 h2 (by omega))) ?_;rintro _ m7⟨j',⟨X,ub,p',q2,rfl,hbf,hj',rO,hNd,NQ,HT⟩,iU⟩;conv=>whnf
  have hI:pO 0 0 2 (cy c w ((i:Int)+1) ub):=axf HT (by omega) (by omega);refine xN ?_;conv=>whnf
  have k8:aq m7 (p'::q2::blk1 ca (qq c w na S (.slice none 0 0))::pn::ps):=aq.tQ iU hj';have hb8:m7 ca=some (qq c w na S (.slice none 0 0)):=k8.get (a:=blk1 ca (qq c w na S (.slice none 0 0))) (by simp) (aG ..);have hi8:i<8:=by omega
  repeat (refine xS ?_;conv=>whnf)
  refine⟨_,_,_,hb8,⟨by simp only[bK,aA,dM,ae,cW];omega,by simp⟩,?_⟩;simp only[bK,aA,cD];obtain⟨f',yz⟩:∃f':Nat->Value,f'= λj=>if j=i then .pointer (some ⟨bf,0,none⟩)else fvs S j:=⟨_,rfl⟩
  rw[arS hi8,<-yz];conv=>whnf
  repeat (refine xS ?_;conv=>whnf)
  have zv:=k8.gu (i:=2) rfl (aG ..) (LA c w (.pointer (some ⟨na,0,none⟩)) f' (nvs S) (.slice none 0 0));rw[cJ]at zv;have hb9:=zv.get (a:=blk1 ca (LA c w (.pointer (some ⟨na,0,none⟩)) f' (nvs S) (.slice none 0 0))) (by simp) (aG ..);refine⟨_,_,_,hb9,⟨by simp only[bK,aA,dM,ae,cW];omega,by simp⟩,?_⟩;simp only[bK,aA];rw[aia hi8];have nr:=zv.gu (i:=2) rfl (aG ..) (LA c w (.pointer (some ⟨na,0,none⟩)) f' (λj=>if j=i then .pointer (some ⟨X.a,0,none⟩)else nvs S j) (.slice none 0 0));rw[cJ]at nr
  have e1:f'=fvs (S++[.up X (cy c w ((i:Int)+1) ub)]):=by
   rw[yz];funext j;rw[arN,hi];simp only[eT.fv,hbf]
  have e2:(λj=>if j=i then .pointer (some ⟨X.a,0,none⟩)else nvs S j)=nvs (S++[.up X (cy c w ((i:Int)+1) ub)]):=by
   funext j;rw[aqP,hi];rfl
  rw[e1,e2]at nr;rw[e1,e2];conv=>whnf
  refine⟨(i+1,S++[.up X (cy c w ((i:Int)+1) ub)]),⟨by rw[ax,hi];rfl,by omega,q2,ps++[p'],nr.fm ?_,hq.trans rO,(N0 hp rO).append (PL.one (x:=eT.up X (cy c w ((i:Int)+1) ub)) hNd),λk s hk=>?_⟩,by simp only;omega,?_⟩
  ·simp only[List.set_cons_succ,s7]
   exact ao4 ..
  ·rcases Nat.lt_or_ge k S.length with h|h
   ·rw[aT h]at hk
    exact hF k s hk
   ·have U6:k=S.length:=by
     have:=(aQ.1 hk).1;simp at this;omega
    subst U6;simp at hk;subst hk;rw[<-hi];exact⟨X,ub,rfl,hI⟩
  ·conv=>whnf
   exact Ra
 ·have HS:¬(i:Int)<c.jv:=aj h
  conv=>whnf
  obtain⟨g1,g2⟩:=aq.k9 (blk1 ca (qq c w na S (.slice none 0 0))::pn::iI::ps) (l:=[q']) (((hs.fm (ao2 ..)).cA).fm (aoZ ..));exact⟨ca,na,S,_,q',rfl,g1,hq,⟨.slice none 0 0,[],pn,iI,ps,g2,hN,Gw.nil _,rfl,by simp,hp,by show S.length=c.jv.toNat;omega,h1⟩,hF⟩
variable {mm p q:aD}{X:Jg}{qt:Int}{N:fw}{j k:Nat}
variable{s:iS}
theorem akO{y:gX}{z:Kd}(hg:jZ q)(hs:aq mm [p,q])(h:y0 p q X qt N)(hT:NdT N)(hI:pO qt j k N)(hj:j+y.ca.length<=1300)(hk:k<=500)(hy:gy q y s)(ho:qx y)(hr:dR y=true)(WZ:y.qe=N.n)(how:G8 N y=true)(h4:y.kind=7)(hz:y.ca=[z]):
  bi tP 69 [cx X.a,mT y s] mm λr m'=>r=[i64 (A9 qt N z).2]/\tD m' q X qt (A9 qt N z).1:=by
 obtain⟨lv,pr,ps,pf,pb,pl,R,hn⟩:=h.op hs;have hR:=nD hr;obtain⟨dE,hF⟩:∃o,A9 qt N z=o:=⟨_,rfl⟩;rw[hF];refine c7 c69 Tryz.func69 ?_;conv=>whnf
 refine xM hn.o ?_;conv=>whnf
 refine⟨λh=>absurd h (by(rw[WZ];simp)),λ_=>?_⟩;conv=>whnf
 refine aP (Qi hg.j8 hs h hT hy hr) ?_;rintro _ m1⟨rfl,hL1⟩;conv=>whnf
 obtain⟨p1,q1,bM,mQ,ml⟩:=hL1.ex;rw[how];refine xN ?_;conv=>whnf
 first|refine fU (Mi) ?_ |refine bt (Mi) ?_
 conv=>whnf
 refine⟨λh=>absurd h (by(rw[h4];decide)),λ_=>?_⟩;conv=>whnf
 refine⟨λ_=>?_,λh=>absurd h (by(rw[h4];simp))⟩;conv=>whnf
 have Vf:∃x,y.ca=[x]:=by
  have:=hR.ok;unfold Vo at this;rw[if_neg (by omega),if_neg (by omega),if_neg (by omega),if_neg (by omega),aC h4]at this;simp only[aB,bA]at this;exact I3.1 this.1.1
 obtain⟨x,hx⟩:=Vf;obtain rfl:x=z:=by rw[hz]at hx;exact(List.cons.inj hx).1.symm
 obtain⟨lv1,pr1,ps1,pf1,pb1,pl1,R1,kV⟩:=ml.op bM;have hcq:=(hy.sub mQ).ca;have hlen:y.ca.length=1:=by rw[hx];rfl
 have EM:x.1.size<=1000000:=by have:=lQ hR.ca x (by rw[hx];simp);omega
 have hxA:=ho.k x (by rw[hx];simp);obtain⟨rs,hR1,hK⟩:=hcq;have hrl:=hK.len;rw[hlen]at hrl hR1;obtain⟨b2,o2,c2,hh,Ag⟩:=hR1.real (i:=0) (by omega);have hky:=hK.je 0 (by omega) (by omega);have Ag:=Ag 0 (by omega);have e0:y.ca[0]'(by omega)=x:=by simp[hx]
 rw[e0]at hky;generalize rs[0]'(by omega)=r at*;injection hh with eK _ fN;obtain⟨xk,xu,xE⟩:=x;obtain⟨rk,ru,ra,rn,rc⟩:=r;have zu:=hky.len;obtain⟨g1,g2,g3,g4⟩:=hky;simp only at g1 g2 g3 g4 zu EM hxA;subst g1 g2 zu;have Ag:=Ag.sub kV.gM;have JR:=fZ (j:=0) Ag rfl;have U7:=dQ.tail (k:=1) Ag
 have ee:List.drop 1 (fj (rk,ru,(ra,xE.length,rc)))=LB.cz [.bG .u64 8 ru,.one (.slice ra xE.length rc)]:=by
  simp[fj,yn g3,LB.cz,eB.cells]
 rw[ee]at U7;conv=>whnf
 refine xM kV.o ?_;conv=>whnf
 rw[hlen,eK]
 repeat (refine xS ?_;conv=>whnf)
 refine⟨_,by simpa [bK]using JR,rfl,?_⟩;conv=>whnf
 rw[hlen,eK]
 repeat (refine xS ?_;conv=>whnf)
 refine⟨[.bG .u64 8 ru,.one (.slice ra xE.length rc)],⟨g3,rfl,trivial⟩,rfl,by simpa [bK]using U7,?_⟩;conv=>whnf
 obtain⟨j3,hj3,dy⟩:=kV.sto;have hI1:=hI.sm (j:=j) (by omega) hk;refine aP (bi.frame dy (MI (k:=rk) (u:=ru) (E:=xE) (hg.sub mQ) hj3 kV.s kV.f hI1 g4 hxA EM hI.qr (by have:=hI.rl;omega) (by have:=hI.ll;omega) (λx hx=>(hI.gl x hx).arg))) ?_;rintro _ m4⟨j4,⟨rfl,u9⟩,eP⟩;conv=>whnf
 try refine⟨λ_ h=>(by cases h),?_⟩
 conv=>whnf
 have hN:A9 qt N (rk,ru,xE)=(if yp qt N.A N.s (rk,ru,xE)then N.put (rk,(jw N.s (rk,ru,xE)).1)else N,Hn qt N.A N.s (rk,ru,xE)):=rfl;rw[hN]at hF;subst hF;refine⟨rfl,tD.lB ?_ mQ⟩
 split at u9
 ·rename_i hb
  simp only[hb,oN];exact kV.ME eP u9
 ·rename_i hb
  simp only[hb];exact kV.ME eP u9
variable{x:vF}
theorem api(hg:jZ q)(hs:aq mm [p,q])(h:y0 p q X qt N)(hT:NdT N)(hI:pO qt j k N)(hj:j<=1260)(hk:k<=500)(hx:vC q x s)(hZ:NdZ N)(h1:aaL x=true)(k1:x.kind=1):
  bi tP 35 [cx X.a,JD x s] mm λr m'=>∃N' y,(N',y)=lW qt N x/\NdR m' q X qt N' y r:=by
 obtain⟨lv,pr,ps,pf,pb,pl,R,hn⟩:=h.op hs;have hq:=hn.gM;have hzo:=hZ.o;have hza:=hZ.an;have hol:=zr hT.c x.key;have hol:(ko N.c x.key N.n).length<=128:=bq (bC _ _) hol
 have ez:S5 x=true:=by
  have:=h1;unfold aaL at this;rw[aB]at this;exact this.1
 unfold S5 at ez;rw[aC k1,aB]at ez;refine ap Tryz.func35 ?_;conv=>whnf
 first|refine fU (A7 hn.o) ?_ |refine bt (A7 hn.o) ?_
 conv=>whnf
 refine xN ?_;conv=>whnf
 first|refine fU (QQ (hg.j8.sub hq) (⟨hx.je.sub hq,hx.ok,hx.k⟩:vC mm x s)) ?_ |refine bt (QQ (hg.j8.sub hq) (⟨hx.je.sub hq,hx.ok,hx.k⟩:vC mm x s)) ?_
 conv=>whnf
 rw[h1];refine xN ?_;conv=>whnf
 refine⟨λ_=>?_,λh=>absurd h (by(rw[k1];simp))⟩;conv=>whnf
 refine aP (Qj hg hs h hT hI hj hk hx ez.2 (by omega) (by omega)) ?_;rintro _ m1⟨⟨p1,q1,ea,ec,la,lc,rfl,g2,g3,g4,g5⟩⟩;conv=>whnf
 exact⟨(lW qt N x).1,(lW qt N x).2,rfl,⟨p1,q1,ea,ec,la,lc,rfl,g2,g3,g4,g5⟩⟩
theorem apa(hg:jZ q)(hs:aq mm [p,q])(h:y0 p q X qt N)(hI:pO qt j k N)(hj:j<=1260)(hk:k<=500)(hx:vC q x s)(h1:aaL x=true)(k6:x.kind=6):
  bi tP 35 [cx X.a,JD x s] mm λr m'=>∃N' y,(∃ub,ub<=N.ns+1/\N'={N with s:=N.s.Gj,A:=jU N.A (gK N.s.g),ns:=ub}/\y=Cq 0)/\NdR m' q X qt N' y r:=by
 obtain⟨lv,pr,ps,pf,pb,pl,R,hn⟩:=h.op hs;have hq:=hn.gM;refine ap Tryz.func35 ?_;conv=>whnf
 first|refine fU (A7 hn.o) ?_ |refine bt (A7 hn.o) ?_
 conv=>whnf
 refine xN ?_;conv=>whnf
 first|refine fU (QQ (hg.j8.sub hq) (⟨hx.je.sub hq,hx.ok,hx.k⟩:vC mm x s)) ?_ |refine bt (QQ (hg.j8.sub hq) (⟨hx.je.sub hq,hx.ok,hx.k⟩:vC mm x s)) ?_
 conv=>whnf
 rw[h1];refine xN ?_;conv=>whnf
 refine⟨λh=>absurd h (by(rw[k6];simp)),λ_=>?_⟩;conv=>whnf
 refine⟨λh=>absurd h (by(rw[k6];simp)),λ_=>?_⟩;conv=>whnf
 refine⟨λh=>absurd h (by(rw[k6];simp)),λ_=>?_⟩;conv=>whnf
 refine⟨λh=>absurd h (by(rw[k6];simp)),λ_=>?_⟩;conv=>whnf
 refine⟨λh=>absurd h (by(rw[k6];simp)),λ_=>?_⟩;conv=>whnf
 refine⟨λ_=>?_,λh=>absurd h (by(rw[k6];simp))⟩;conv=>whnf
 obtain⟨j3,hj3,dy⟩:=hn.sto;have B8:=hI.sm (by omega) hk;refine xM hn.o ?_;conv=>whnf
 refine aP (bi.frame dy (Pu hj3 hn.s hn.f B8)) ?_;rintro _ m4⟨j4,⟨rfl,ub,NQ,hL⟩,eP⟩;conv=>whnf
 exact⟨_,Cq 0,⟨ub,NQ,rfl,rfl⟩,.uK (hn.ME eP hL)⟩
theorem anL{z:Kd}(hg:jZ q)(hs:aq mm [p,q])(h:y0 p q X qt N)(hT:NdT N)(hI:pO qt j k N)(hj:j<=1260)(hk:k<=500)(hx:vC q x s)(h1:aaL x=true)(k5:x.kind=5)(WZ:x.AB.qe=N.n)(how:G8 N x.AB=true)(h4:x.AB.kind=7)(hz:x.AB.ca=[z]):
  bi tP 35 [cx X.a,JD x s] mm λr m'=>∃N' y,(N'=(A9 qt N z).1/\y=Cq (A9 qt N z).2)/\NdR m' q X qt N' y r:=by
 obtain⟨lv,pr,ps,pf,pb,pl,R,hn⟩:=h.op hs;have hq:=hn.gM
 have ez:S5 x=true:=by
  have:=h1;unfold aaL at this;rw[aB]at this;exact this.1
 unfold S5 at ez;rw[if_neg (by omega),if_neg (by omega),aC k5]at ez;refine ap Tryz.func35 ?_;conv=>whnf
 first|refine fU (A7 hn.o) ?_ |refine bt (A7 hn.o) ?_
 conv=>whnf
 refine xN ?_;conv=>whnf
 first|refine fU (QQ (hg.j8.sub hq) (⟨hx.je.sub hq,hx.ok,hx.k⟩:vC mm x s)) ?_ |refine bt (QQ (hg.j8.sub hq) (⟨hx.je.sub hq,hx.ok,hx.k⟩:vC mm x s)) ?_
 conv=>whnf
 rw[h1];refine xN ?_;conv=>whnf
 refine⟨λh=>absurd h (by(rw[k5];simp)),λ_=>?_⟩;conv=>whnf
 refine⟨λh=>absurd h (by(rw[k5];simp)),λ_=>?_⟩;conv=>whnf
 refine⟨λh=>absurd h (by(rw[k5];simp)),λ_=>?_⟩;conv=>whnf
 refine⟨λh=>absurd h (by(rw[k5];simp)),λ_=>?_⟩;conv=>whnf
 refine⟨λ_=>?_,λh=>absurd h (by(rw[k5];simp))⟩;conv=>whnf
 refine aP (akO hg hs h hT hI (by rw[hz];simp;omega) hk hx.je hx.ok ez WZ how h4 hz) ?_;rintro _ m1⟨rfl,hL⟩;conv=>whnf
 exact⟨_,_,⟨rfl,rfl⟩,.uK hL⟩
variable {qt:Int}{N N':fw}{j k:Nat}
theorem pO.eq(h:pO qt j k N)(hs:N'.s=N.s)(hA:N'.A=N.A)(hb:N'.nb=N.nb)(hn:N'.ns=N.ns):pO qt j k N':=by
 obtain⟨h1,h2,h3,h4,h5,h6,h7,h8,h9⟩:=h;rw[<-hs,<-hA]at h1;rw[<-hs]at h3 h9;rw[<-hA]at h4 h8;rw[<-hA,<-hs]at h5;rw[<-hb]at h6;rw[<-hn]at h7;exact⟨h1,h2,h3,h4,h5,h6,h7,h8,h9⟩
theorem pO.box{n:Nat}(h:pO qt j k N)(hb:y7 N N' n):pO qt j k N':=by
 have e:=hb.e;exact h.eq (by rw[e]) (by rw[e]) (by rw[e]) (by rw[e])
structure OP(N N':fw):Prop where
 c:N'.c=N.c
 w:N'.w=N.w
 n:N'.n=N.n
theorem OP.refl(N:fw):OP N N:=⟨rfl,rfl,rfl⟩
theorem OP.trans{M:fw}(h:OP N N')(h':OP N' M):OP N M:=⟨h'.c.trans h.c,h'.w.trans h.w,h'.n.trans h.n⟩
theorem y7.fix{n:Nat}(h:y7 N N' n):OP N N':=by rw[h.e];exact⟨rfl,rfl,rfl⟩
structure Nx(qt:Int)(j k:Nat)(N N':fw):Prop where
 i:pO qt j k N'
 (f:OP N N')
theorem acw(h:pO qt j k N)(hT:NdT N)(hm:E8 x.op.1 x.op.2.1 x.op.2.2=true):Nx qt (j+1) k N (lW qt N x).1:=by
 have hz:Nx qt (j+1) k N N:=⟨h.up (by omega) (by omega),.refl _⟩;have hg:=qo (λy hy=>(h.gl y hy).arg) x.key;have ha:=Xt (k:=x.key) (u:=(gh N.s.L x.key).1) (E:=(gh N.s.L x.key).2) hg.u hg.e hg.n hT.n8 (ajf hm);unfold lW;split
 ·exact hz
 split
 ·exact hz
 split
 ·exact hz
 ·rename_i hp
  have hp:rq qt N.A N.s (x.key,(Jc (gh N.s.L x.key) N.n x.op).1)=0:=by simpa using hp
  have h1:=h.put ha.u hp;have hb:=rL (x.key,(Jc (gh N.s.L x.key) N.n x.op).1) (ko N.c x.key N.n) ((N.put (x.key,(Jc (gh N.s.L x.key) N.n x.op).1)).nX ⟨x.id,0,[]⟩);exact⟨(h1.eq (N':=(N.put (x.key,(Jc (gh N.s.L x.key) N.n x.op).1)).nX ⟨x.id,0,[]⟩) rfl rfl rfl rfl).box hb,OP.trans (N':=(N.put (x.key,(Jc (gh N.s.L x.key) N.n x.op).1)).nX ⟨x.id,0,[]⟩) ⟨rfl,rfl,rfl⟩ hb.fix⟩
variable {qt:Int}{N N':fw}{j k:Nat}
variable {qt:Int}{N N':fw}{j k e:Nat}
variable {qt:Int}{N N':fw}{j k e:Nat}
variable {qt:Int}{N N':fw}{j k e:Nat}
def Nk:iS:=⟨(none,0),(none,0),(none,0)⟩
theorem G2(n:Int):∀(l dE:List Int) (x:Int),x∈dE->x∈iM n dE l
 |[],dE,x,h=>h
 |y::l,dE,x,h=>by
  unfold iM;refine G2 n l _ x ?_;split
  ·exact lJ _ h
  ·exact h
theorem P1(n:Int):∀(l dE:List Int),dE.Nodup->(iM n dE l).Nodup
 |[],dE,h=>h
 |y::l,dE,h=>by
  unfold iM;refine P1 n l _ ?_;split
  ·rename_i h1
   simp only[aB,dH,jS,gz]at h1;exact List.nodup_append.2 ⟨h,by simp,λa ha b hb=>by rw[aL.1 hb];intro e;exact h1.2 (e▸ha)⟩
  ·exact h
theorem K3(n:Int):∀(l dE:List Int) (x:Int),x∈iM n dE l->x∈dE\/x∈l
 |[],dE,x,h=>.inl h
 |y::l,dE,x,h=>by
  unfold iM at h;rcases K3 n l _ x h with h|h
  ·split at h
   ·rcases aR.1 h with h|h
    ·exact .inl h
    ·exact .inr (aU.2 (.inl (aL.1 h)))
   ·exact .inl h
  ·exact .inr (bO _ h)
theorem K5(n:Int):∀(l dE:List Int),(iM n dE l).length<n->∀x∈l,x∈iM n dE l
 |[],dE,_,x,hx=>by cases hx
 |y::l,dE,h,x,hx=>by
  unfold iM at h⊢;rcases aU.1 hx with rfl|hx
  ·refine G2 n l _ _ ?_
   split
   ·exact jp _ (aL.2 rfl)
   ·rename_i h1
    simp only[aB,dH,jS,gz,bA,not_and,Decidable.not_not]at h1;refine h1 ?_;rw[if_neg (by simp only[aB,dH,jS,gz,bA,not_and,Decidable.not_not];exact h1)]at h
    have:dE.length<=(iM n dE l).length:=by
     have hs:∀(l dE:List Int),dE.length<=(iM n dE l).length:=by
      intro l
      induction l with
      |nil=>intro dE;exact aW _
      |cons z l ih=>
       intro dE;unfold iM;refine bq ?_ (ih _);split
       ·simp
       ·exact aW _
     exact hs l dE
    omega
  ·exact K5 n l _ h x hx
theorem ao1{l:List Int}(h:∀x,x=1\/x=2\/x=3↔x∈l):(iM 3 [] l).Nodup/\∀x,x∈iM 3 [] l↔x=1\/x=2\/x=3:=by
 have hn:=P1 3 l [] List.nodup_nil;have hs:=K3 3 l []
 have key:∀x,x=1\/x=2\/x=3->x∈iM 3 [] l:=by
  by_cases hl:((iM 3 [] l).length:Int)<3
  ·exact λx hx=>K5 3 l [] hl x ((h x).1 hx)
  ·intro x hx
   refine Decidable.byContradiction λhc=>?_;have hp:=dz.1 hn
   have hm:∀(i:Nat) (hi:i<(iM 3 [] l).length),((iM 3 [] l)[i]=1\/(iM 3 [] l)[i]=2\/(iM 3 [] l)[i]=3)/\(iM 3 [] l)[i]≠x:=λi hi=>by
    have hi2:=aO hi
    grind
   have m0:=hm 0 (by omega);have m1:=hm 1 (by omega);have m2:=hm 2 (by omega)
   grind
 grind
def aj9:List Int:=[0,1,0,0,0,0,0,0]
def VD:En:=(2,2,1,3)
def pJ:Ct:=(aj9,[VD])
theorem ag1:AD [VD]=[(2,1)]:=by
 simp[AD,TW,uP,kz,VD,jm,uw,S7,gL]
theorem PN:dA pJ.1 pJ.2=true:=by
 show dA aj9 [VD]=true
 unfold dA;rw[ag1];decide
theorem aq6:Jc (fx,[]) 2 (1,2,3)=(pJ,((1,2,3),(2,1),[]),0):=by
 have h1:Jy (1,2,3) []=[]:=by simp[Jy,AD,TW,uP,gL]
 have h2:nY [((2,2,1,3):En)]=[(2,2,1,3)]:=List.mergeSort_singleton _;have h3:nj (1,2,3) []=[]:=rfl;have h4:xc fx 2=(1,0):=by decide
 have h5:wR fx 2 1=aj9:=by decide
 unfold Jc;simp only[h1,h3,h4,h5];rw[if_neg (by decide),if_neg (by decide),if_neg (by simp),bV,h2];rfl
def SI(r:Int):Rc:=⟨3,3,r⟩
def w33:Bk:=⟨2,8,4,0⟩
def y6:ByteArray:=⟨#[97]⟩
def afQ:vF:=⟨1,5,y6,(1,2,3),0,fP⟩
def bk(t:Int):gX:=iL 2 t (y6,pJ)
theorem aqR:kZ (jR y6)=true:=by decide
theorem amk:aaL afQ=true:=by decide
theorem ayA:∀x:Int,x=1\/x=2\/x=3↔x∈(ja (SI 3)).map (·.2):=by
 intro x;unfold ja;simp only[aV,List.mem_mergeSort,M3,Ju,iu,dS,List.mem_range'_1,agq];have e1:(SI 3).jv.toNat=3:=rfl;have e2:(SI 3).AO.toNat=3:=rfl;rw[e1,e2]
 constructor
 ·intro h
  refine⟨_,⟨x.toNat,by omega,0,by omega,rfl⟩,?_⟩
  show((x.toNat:Nat):Int)=x
  omega
 ·rintro⟨p,⟨n,hn,i,hi,rfl⟩,rfl⟩
  show((n:Nat):Int)=1\/((n:Nat):Int)=2\/((n:Nat):Int)=3
  omega
theorem aqQ:(wW (SI 3) y6).Nodup/\∀x,x∈wW (SI 3) y6↔x=1\/x=2\/x=3:=by
 unfold wW;rw[aC aqR];have:=K7 y6;unfold sB;rw[if_neg (by omega)];refine ao1 λx=>(ayA x).trans ?_;generalize (max (sH (λp=>decide (_<=p.1)) (ja (SI 3))) (0:Int)).toNat=i;simp only[aV,aR]
 constructor
 ·rintro⟨a,ha,e⟩
  rw[<-dL i (ja (SI 3))]at ha;exact⟨a,(aR.1 ha).symm,e⟩
 ·rintro⟨a,ha,e⟩
  refine⟨a,?_,e⟩;rcases ha with ha|ha
  ·exact fk ha
  ·exact bX ha
theorem alb(hn:n=1\/n=2\/n=3):sJ (SI 3) n y6=true:=by
 unfold sJ;rw[List.contains_iff_mem];exact(aqQ.2 n).2 hn
theorem aqN:∃a b:Int,ko (SI 3) y6 2=[a,b]/\(a=1/\b=3\/a=3/\b=1):=by
 obtain⟨hn,hm⟩:=aqQ
 have hf:∀x,x∈ko (SI 3) y6 2↔x=1\/x=3:=λx=>by
  unfold ko;rw[cH,hm];simp only[dH,gz];omega
 have hd:(ko (SI 3) y6 2).Nodup:=hn.filter _;generalize ko (SI 3) y6 2=l at hf hd
 match l,hf,hd with
 |[],hf,_=>exact absurd ((hf 1).2 (.inl rfl)) (by simp)
 |[a],hf,_=>
  have h1:=(hf 1).2 (.inl rfl);have h3:=(hf 3).2 (.inr rfl);simp at h1 h3;omega
 |[a,b],hf,hd=>
  have ha:=(hf a).1 (by simp);have hb:=(hf b).1 (by simp);simp only[nU,aU,fG,rH]at hd;exact⟨a,b,rfl,by omega⟩
 |a::b::c::r,hf,hd=>
  have ha:=(hf a).1 (by simp);have hb:=(hf b).1 (by simp);have hc:=(hf c).1 (by simp);simp only[nU,aU,not_or]at hd;omega
variable{t:Int}
theorem pN(ht:t=1\/t=3):dR (bk t)=true:=by
 have hl:cX [((y6,pJ):Kd)]=true:=vV.2 ⟨λx hx=>by rw[aL.1 hx];exact⟨by decide,PN⟩,Fu _ _,by simp⟩;unfold dR Vo bk iL;simp only[hl];rcases ht with rfl|rfl<;>decide
theorem atF(dI:N.s.st=0):rq 0 N.A N.s (y6,pJ)=0:=by
 have h1:sW N.s y6 pJ=0:=by
  unfold sW;rw[if_neg (by rw[aqR];simp),if_neg (by rw[PN];simp),if_neg (by omega)]
 unfold rq;rw[if_neg (by simp only[h1];simp),if_neg];rintro⟨h,_⟩;exact absurd h (by decide)
theorem aqG{x:gX}(hx:dR x=true):N.send x={N with B:=⟨N.B.dE++[(x,((N.s.R.length:Nat):Int))],N.B.o7⟩}:=by
 show({N with B:=N.B.send x _}:fw)=_
 unfold kf.send;rw[aC hx]
structure Aw(N':fw)(su a b:Nat):Prop where
 ab:a=1/\b=3\/a=3/\b=1
 (R:N'.s.R.length=1)
 (su:N'.s.cY=su)
 o:N'.B.dE=[(bk a,1),(bk b,1)]
 an:N'.B.o7=[(⟨5,0,[]⟩,1)]
theorem arX{A:List Af}{nb ns:Nat}{y:XL}(hd:(N',y)=lW 0 (agR (SI 3) w33 2 ⟨0,[],[],0,0⟩ A nb ns) afQ):y.err=0/\∃a b,Aw N' 0 a b:=by
 generalize hN:agR (SI 3) w33 2 ⟨0,[],[],0,0⟩ A nb ns=N at hd;have hg:gh N.s.L y6=(fx,[]):=by subst hN;rfl
 have hp:=atF (N:=N) (by subst hN;rfl);obtain⟨a,b,ho,hab⟩:=aqN;unfold lW at hd;have e1:N.c=SI 3:=by subst hN;rfl
 have e2:N.n=2:=by subst hN;rfl
 have e3:afQ.key=y6:=rfl;have e4:afQ.op=(1,2,3):=rfl;have e5:afQ.id=5:=rfl;simp only[e1,e2,e3,e4,e5,hg,aq6,alb (n:=2) (by omega),hp,ho]at hd;rw[if_neg (by simp),if_neg (by simp),if_neg (by simp)]at hd;obtain⟨h1,h2⟩:=Prod.mk.inj hd;refine⟨by rw[h2],a.toNat,b.toNat,?_⟩;have ea:((a.toNat:Nat):Int)=a:=by omega
 have eb:((b.toNat:Nat):Int)=b:=by omega
 have ra:=pN (t:=a) (by omega);have rb:=pN (t:=b) (by omega)
 have e6:N'=(((N.put (y6,pJ)).nX ⟨5,0,[]⟩).send (bk a)).send (bk b):=by
  rw[h1]
  show fw.push (fw.push _ a _) b _=_
  unfold fw.push;have n1:((N.put (y6,pJ)).nX ⟨5,0,[]⟩).n=2:=e2;have n2:(((N.put (y6,pJ)).nX ⟨5,0,[]⟩).send (bk a)).n=2:=e2;rw[n1];have r1:dR (iL 2 a (y6,pJ))=true:=ra;rw[aC r1];have n2':(((N.put (y6,pJ)).nX ⟨5,0,[]⟩).send (iL 2 a (y6,pJ))).n=2:=e2;rw[n2'];have r2:dR (iL 2 b (y6,pJ))=true:=rb;rw[aC r2];rfl
 rw[aqG ra,aqG rb]at e6;subst hN;refine⟨by omega,by rw[e6];rfl,by rw[e6];rfl,?_,by rw[e6];rfl⟩;rw[e6,ea,eb];rfl
theorem axo{a b:Nat}(h:Aw N 1 a b):N.Nb=[bk a,bk b]:=by
 show(N.B.dE.filter _).map _=_
 rw[h.o,h.su];rfl
theorem as5{a b:Nat}(h:Aw N 1 a b):N.BI=[⟨5,0,[]⟩]:=by
 show(N.B.o7.filter _).map _=_
 rw[h.an,h.su];rfl
theorem ayu:nh (fx,[]) pJ=(pJ,0):=by
 have h2:nY [VD]=[VD]:=List.mergeSort_singleton _;have h3:yv fx aj9 [] [VD]=[VD]:=by decide
 have h4:QL fx aj9=aj9:=by decide
 have h5:dA fx []=true:=by
  unfold dA;rw[show AD []=[] by simp[AD,TW,uP,gL]];decide
 unfold nh;rw[if_neg (by rw[h5,PN];simp),if_neg (by simp[yS])]
 show(if 400<(yv fx aj9 [] [VD]).length then _ else _)=_
 rw[h3,if_neg (by simp)]
 show((QL fx aj9,nY (yv fx aj9 [] [VD])),(0:Int))=_
 rw[h3,h4,h2];rfl
theorem arY(hs:N.s=⟨0,[],[],0,0⟩):A9 0 N (y6,pJ)=(N.put (y6,pJ),0)/\(N.put (y6,pJ)).s.L=[(y6,pJ)]:=by
 have hg:gh N.s.L y6=(fx,[]):=by rw[hs];rfl
 have hp:=atF (N:=N) (by rw[hs]);obtain⟨p1,p2⟩:=KX hp;have ga:¬((fx,[]):Ct)=pJ:=by decide
 have hm:jw N.s (y6,pJ)=(pJ,0):=by unfold jw;rw[hg];exact ayu
 refine⟨?_,?_⟩
 ·unfold A9 yp Hn
  simp only[hm,hg,p1,hp,ga,decide_true,aaJ,Bool.not_false,Bool.and_self,oN,gS,ne_eq,not_true_eq_false]
 ·show(N.s.put (y6,pJ)).L=_
  rw[jf.ai3,hs];rfl
theorem arW(hc:N.c=SI 3)(hn:N.n=1):G8 N (bk 1)=true:=by
 unfold G8;rw[aC (show(bk 1).kind=7 from rfl),hc,hn];have h1:NF (bk 1).ca=y6:=rfl;have h2:(bk 1).fr=2:=rfl;rw[h1,h2,alb (by omega),alb (by omega)];rfl
section
variable {mm q pn pt:aD}{ca na i:Nat}{C:NN}{tv:Value}{RT:List Rtd}{ps:List aD}{X:Jg}{N:fw}
theorem ag9{m:aD}:eN tP 40 [] m [.a (Sq (SI 2) w33)]:=by
 refine ap Tryz.func40 ?_;conv=>whnf
 exact rR
theorem cN.auM(h:cN mm q ca na C tv RT pn pt ps)(hi:C.S[i]?=some (.up X N)):∃lv,mm X.a=some (iq X N lv):=by
 obtain⟨pi,j,h1,h2,h3,h4⟩:=h.node hi;obtain⟨lv,pr,ps',pf,pb,pl,R,hn⟩:=y0.op h1 h2;exact⟨lv,h3.sub (by simp) _ _ hn.o⟩
theorem afr(hC:cN mm q ca na C tv RT pn pt ps):eN tP 41 [cx ca] mm [bR true]:=by
 have hk:=hC.kb;have h8:=hk.le;have hn:=hk.n;refine ap Tryz.func41 ?_;conv=>whnf
 refine xN ?_;conv=>whnf
 first|refine fU (ajt hk) ?_ |refine bt (ajt hk) ?_
 conv=>whnf
 refine xN ?_;conv=>whnf
 refine .mk (ι:=Nat) (λi=>8-i) (λi m'=>i<=8/\m'=mm) (λi=>[(0,.c (cx ca)),(3,.c (i64 ((i:Int)+1)))]) (λ_=>[]) 0 ⟨by omega,rfl⟩ ?_ ?_
 ·conv=>whnf
  exact Ra
 rintro i m2⟨hi,he⟩;subst he;have e2:IntKind.i64.wrap ((i:Int)+1+1)=((i+1:Nat):Int)+1:=by rw[wi];omega
 conv=>whnf
 apply bI<;>intro h1
 ·have h1:(i:Int)+1<9:=ah h1
  conv=>whnf
  by_cases bH:i<C.S.length
  ·have qW:C.S[i]?=some C.S[i]:=az bH
   first|refine fU (aN hk qW) ?_ |refine bt (aN hk qW) ?_
   conv=>whnf
   cases W9:C.S[i]with
   |up X N=>
    rw[W9]at qW;obtain⟨lv,hb⟩:=hC.auM qW;refine xY ?_;conv=>whnf
    first|refine fU (yg hb) ?_ |refine bt (yg hb) ?_
    conv=>whnf
    refine xN ?_;conv=>whnf
    refine⟨i+1,⟨by omega,rfl⟩,by omega,?_⟩;conv=>whnf
    repeat (refine And.intro (by first|with_reducible rfl|(first|exact cI e2)|exact cI (wi)|exact wi|rfl) ?_;conv=>whnf)
    exact xT
   |down bf nb ns A=>
    refine xN ?_;conv=>whnf
    refine⟨i+1,⟨by omega,rfl⟩,by omega,?_⟩;conv=>whnf
    repeat (refine And.intro (by first|with_reducible rfl|(first|exact cI e2)|exact cI (wi)|exact wi|rfl) ?_;conv=>whnf)
    exact xT
  ·first|refine fU (y9 (n:=(i:Int)+1) hk (by omega)) ?_ |refine bt (y9 (n:=(i:Int)+1) hk (by omega)) ?_
   conv=>whnf
   refine xN ?_;conv=>whnf
   refine⟨i+1,⟨by omega,rfl⟩,by omega,?_⟩;conv=>whnf
   repeat (refine And.intro (by first|with_reducible rfl|(first|exact cI e2)|exact cI (wi)|exact wi|rfl) ?_;conv=>whnf)
   exact xT
 ·conv=>whnf
  exact rR
theorem aq3{n:Int}{x:vF}{s:iS}(hC:cN mm q ca na C tv RT pn pt ps)(hn:n<1\/C.c.jv<n):eN tP 13 [cx ca,i64 n,JD x s] mm [.a (agk (Cq 11) none 0 none 0)]:=by
 refine c7 c13 Tryz.func13 ?_;conv=>whnf
 first|refine fU (anX hC.kb hn) ?_ |refine bt (anX hC.kb hn) ?_
 conv=>whnf
 refine xY ?_;conv=>whnf
 exact rR
theorem aos{c:Rc}{w:Bk}{S:List eT}(hl:S.length=3)(hF:Frs c w S):∃X1 n1 X2 n2 X3 n3,S=[.up X1 (cy c w 1 n1),.up X2 (cy c w 2 n2),.up X3 (cy c w 3 n3)]/\pO 0 0 2 (cy c w 1 n1)/\pO 0 0 2 (cy c w 2 n2)/\pO 0 0 2 (cy c w 3 n3):=by
 match S,hl,hF with
 |[s1,s2,s3],_,hF=>
  obtain⟨X1,n1,e1,h1⟩:=hF 0 s1 rfl;obtain⟨X2,n2,e2,h2⟩:=hF 1 s2 rfl;obtain⟨X3,n3,e3,h3⟩:=hF 2 s3 rfl;exact⟨X1,n1,X2,n2,X3,n3,by rw[e1,e2,e3];rfl,h1,h2,h3⟩
def aBv:vF:=⟨6,0,ByteArray.empty,(0,0,0),0,fP⟩
theorem aru(m:aD){x:vF}(hm:x.AB=fP)(hk:x.key.size<=100):vC m x Nk:=by
 refine⟨?_,?_,by omega⟩
 ·rw[hm];exact⟨rfl,(Io.nil _).il.ia,(I0.nil _).dl.da,lu.nil _⟩
 ·rw[hm]
  exact⟨(by intro c hc;cases hc),(by intro c hc;cases hc),(by intro c hc;cases hc),lF _,lF _,lF _⟩
theorem ayE{a b:Nat}(hab:a=1/\b=3\/a=3/\b=1):(([bk a,bk b]).foldl mi.WI ⟨[],0,0,0⟩).E=[((2,(a:Int)),[we (bk a)]),((2,(b:Int)),[we (bk b)])]:=by
 have ra:=pN (t:=a) (by omega);have rb:=pN (t:=b) (by omega);have ga:¬((2,(b:Int)):R4)=(2,(a:Int)):=λe=>by have:=(Prod.mk.inj e).2;omega
 show(mi.WI (mi.WI ⟨[],0,0,0⟩ (bk a)) (bk b)).E=_
 have e1:mi.WI ⟨[],0,0,0⟩ (bk a)=⟨[((2,(a:Int)),[we (bk a)])],IntKind.i64.wrap (0+1),0,0⟩:=by
  rw[mi.WI,if_neg (by rw[ra];simp),if_neg (by simp[sa])];rfl
 rw[e1,mi.WI,if_neg (by rw[rb];simp),if_neg (by simp[sa])];have h2:((bk b).fr,(bk b).qe)=((2,(b:Int)):R4):=rfl;rw[h2];simp only[N7,vw,if_neg ga];rfl
theorem azm{a b:Nat}{E:List Nen}(hab:a=1/\b=3\/a=3/\b=1)(hE:E=[((2,(a:Int)),[we (bk a)]),((2,(b:Int)),[we (bk b)])]):k7 (2,1) E=[we (bk 1)]/\k7 (2,3) (ajg (2,1) 0 E)=[we (bk 3)]:=by
 subst hE;rcases hab with⟨rfl,rfl⟩|⟨rfl,rfl⟩
 all_goals
  rw[show((1:Nat):Int)=1 from rfl,show((3:Nat):Int)=3 from rfl];generalize we (bk 1)=A;generalize we (bk 3)=B;exact rR
theorem aqH{t:Int}(ht:t=1\/t=3):sg (we (bk t))=(bk t,0):=
 T7 (pN ht) rfl (by intro d hd;cases hd) (λc hc=>by
  have:c=(y6,pJ):=aL.1 hc;rw[this]
  exact⟨rfl,λx hx=>by
   have:x∈aj9:=hx;have:x=0\/x=1\/x=0:=by simpa [aj9]using this
   unfold BC
   omega⟩)
end
theorem akP(ht:t=1\/t=3):aaL (ass (bk t))=true:=by
 have h1:S5 (ass (bk t))=true:=by
  show(if (5:Int)=1 then _ else if (5:Int)=2 then _ else if (5:Int)=5 then dR (bk t)else _)=true
  rw[if_neg (by decide),if_neg (by decide),aC rfl];exact pN ht
 unfold aaL;rw[h1,bj];unfold Uh PH;simp[ass,anJ]
theorem arM:ki (y6,pJ):=⟨aqR,⟨rfl,λx hx=>by
 have:x∈aj9:=hx;have:x=0\/x=1\/x=0:=by simpa [aj9]using this
 unfold BC
 omega⟩,PN⟩
theorem aoP:IY (bk t):=by
 have Vf:∀{P:Kd->Prop},P (y6,pJ)->∀c∈(bk t).ca,P c:=λh c hc=>by
  have:c=(y6,pJ):=aL.1 hc;rw[this];exact h
 refine⟨⟨Vf arM.arg,Vf (by decide),Vf (by decide),by show 1<=10000;omega,lF _,lF _⟩,⟨by show ∀n∈fX,n<256;decide,by intro d hd;cases hd⟩,?_⟩;have:=WU (x:=(y6,pJ)) arM.u (by decide)
 show([(y6,pJ)].map nJ).flatten.length<=_
 simp only[aZ,lK,dX,List.flatten_nil,cO];omega
theorem auG{β:Type}{f:α->β}:∀{l:List α}{b:β},l.map f=[b]->∃r,l=[r]/\f r=b
 |[r],_,h=>⟨r,rfl,(List.cons.inj h).1⟩
 |[],_,h=>by cases h
 |_::_::_,_,h=>by cases(List.cons.inj h).2
theorem azn{k:R4}{E:List Nen}{b:List Int}(h:k7 k E=[b]):∃h:0<(k7 k E).length,(k7 k E)[0]=b:=by
 refine⟨by rw[h];simp,?_⟩;simp only[h,List.getElem_cons_zero]
theorem axc(hn:1<=n/\n<=3):NdT (cy (SI 3) w33 n k):=⟨show(SI 3).ok=true by decide,show w33.ok=true by decide,hn⟩
theorem KW(hg:jZ m):bi tP 19 [] m λr m'=>r=[bR true]/\cL m m':=by
 refine c7 c19 Tryz.func19 ?_;conv=>whnf
 first|refine fU (ag9) ?_ |refine bt (ag9) ?_
 conv=>whnf
 refine aP (ajs (c:=SI 3) (w:=w33) hg (by decide) (by decide)) ?_;rintro _ m1⟨ca,na,S,p1,q1,rfl,bM,mQ,hC1,hF⟩;conv=>whnf
 obtain⟨tv1,RT1,pn1,pt1,ps1,hO1⟩:=hC1.op bM;obtain⟨X1,n1,X2,n2,X3,n3,rfl,hI1,hI2,hI3⟩:=aos hO1.n hF;refine xN ?_;conv=>whnf
 first|refine fU (afr hO1) ?_ |refine bt (afr hO1) ?_
 conv=>whnf
 refine xN ?_;conv=>whnf
 first|refine fU (aN (i:=1) hO1.kb rfl) ?_ |refine bt (aN (i:=1) hO1.kb rfl) ?_
 conv=>whnf
 refine xN ?_;conv=>whnf
 refine aP (alW (i:=1) (X:=X2) (N:=cy (SI 3) w33 2 n2) (D:=λN' y=>(N',y)=lW 0 (cy (SI 3) w33 2 n2) afQ) (x:=afQ) (s:=Nk) hO1 rfl (by decide) (by decide) (λhj hn=>api (hg.sub mQ) hj hn (axc (by omega)) hI2 (by omega) (by omega) (aru _ rfl (by decide)) ⟨by simp[cy,agR],by simp[cy,agR],by simp[cy,agR],by simp[cy,agR],by simp[cy,agR]⟩ amk rfl)) ?_;rintro _ m2⟨N2,y2,hd2,jK⟩;conv=>whnf
 obtain⟨p2,q2,ea2,ec2,la2,lc2,rfl,bZ,rO,hC2,_⟩:=jK.ex;obtain⟨tv2,RT2,pn2,pt2,ps2,hO2⟩:=hC2.op bZ;obtain⟨he2,a,b,arJ⟩:=arX hd2
 have aCL:pO 0 1 2 N2:=by
  have:=(acw hI2 (axc (by omega)) (x:=afQ) (by decide)).i;rw[<-hd2]at this;exact this
 obtain⟨er2,ev2,ln2⟩:=y2;simp only at he2;subst he2;conv=>whnf
 refine aP (alW (i:=1) (X:=X2) (N:=N2) (D:=λN' y=>∃ub,ub<=N2.ns+1/\N'={N2 with s:=N2.s.Gj,A:=jU N2.A (gK N2.s.g),ns:=ub}/\y=Cq 0) (x:=aBv) (s:=Nk) hO2 rfl (by decide) (by decide) (λhj hn=>apa ((hg.sub mQ).sub rO) hj hn aCL (by omega) (by omega) (aru _ rfl (by decide)) (by decide) rfl)) ?_;rintro _ m3⟨N3,y3,⟨ns3,_,hN3,_⟩,wo⟩;conv=>whnf
 obtain⟨p3,q3,ea3,ec3,la3,lc3,rfl,dy,EK,hC3,_⟩:=wo.ex;obtain⟨tv3,RT3,pn3,pt3,ps3,hO3⟩:=hC3.op dy
 have apO:Aw N3 1 a b:=by
  rw[hN3];exact⟨arJ.ab,arJ.R,arJ.R,arJ.o,arJ.an⟩
 have hg3:=((hg.sub mQ).sub rO).sub EK
 have aHk:RT3.length=0:=by
  have:=be List.length hO3.te;rw[aH]at this;exact this
 have DL:=axo apO;conv=>whnf
 refine aP (alV (i:=1) (X:=X2) (N:=N3) hg3.j8 hO3 rfl (by rw[apO.o];simp) (by rw[apO.an];simp) (by omega) (by rw[DL];intro x hx;simp only[aU,fG,rH]at hx;rcases hx with rfl|rfl<;>exact aoP)) ?_;rintro _ m4⟨rfl,hL4⟩;conv=>whnf
 rw[show N3.Nb.length=2 from by rw[DL];rfl];obtain⟨p4,q4,eP,Zx,hC4⟩:=hL4.ex;obtain⟨tv4,RT4,pn4,pt4,ps4,hO4⟩:=hC4.op eP;have hg4:=hg3.sub Zx;have aBS:(N3.Nb.foldl mi.WI ⟨[],0,0,0⟩).E=[((2,(a:Int)),[we (bk a)]),((2,(b:Int)),[we (bk b)])]:=by rw[DL];exact ayE apO.ab
 obtain⟨aCo,aCn⟩:=azm apO.ab aBS;obtain⟨NT,lZ⟩:=azn aCo;have qn:=aqH (t:=1) (by omega);rw[<-lZ]at qn;refine aP (aiK (f:=2) (i:=0) (i0:=0) (y:=bk 1) (X:=X1) (N:=cy (SI 3) w33 1 n1) (D:=λN' z=>N'=(A9 0 (cy (SI 3) w33 1 n1) (y6,pJ)).1/\z=Cq (A9 0 (cy (SI 3) w33 1 n1) (y6,pJ)).2) hg4.j8 hO4 rfl NT qn (λhq hj hn hMa hMo _=>anL (hg4.sub hq) hj hn (axc (by omega)) hI1 (by omega) (by omega) ⟨hMa,hMo,by decide⟩ (akP (by omega)) rfl rfl (arW rfl rfl) rfl rfl)) ?_;rintro _ m5⟨N5,z5,rfl,⟨hN5,hz5⟩,hL5⟩;conv=>whnf
 obtain⟨hmg,hmL⟩:=arY (N:=cy (SI 3) w33 1 n1) rfl;rw[hmg]at hN5;obtain rfl:z5=Cq 0:=by rw[hz5,hmg]
 obtain⟨p5,q5,eD,NM,hC5⟩:=hL5.ex;obtain⟨tv5,RT5,pn5,pt5,ps5,hO5⟩:=hC5.op eD;have hg5:=hg4.sub NM;conv=>whnf
 refine aP (alX (i:=2) (X:=X3) (N:=cy (SI 3) w33 3 n3) (kk:=1000) (dO:=[]) hO5 rfl (hI3.sm (by omega) (by omega)) (Io.nil _).il.ia (by simp) (by simp)) ?_;rintro _ m6⟨rfl,hL6⟩;conv=>whnf
 obtain⟨p6,q6,gC,Zw,hC6⟩:=hL6.ex;obtain⟨tv6,RT6,pn6,pt6,ps6,hO6⟩:=hC6.op gC;have hg6:=hg5.sub Zw;obtain⟨hm3,tX⟩:=azn aCn;have wo:=aqH (t:=3) (by omega);rw[<-tX]at wo;refine aP (aiR (f:=2) (i:=2) (i0:=0) hg6.j8 hO6 rfl hm3 (be Prod.snd wo)) ?_;rintro _ m7⟨rfl,hL7⟩;conv=>whnf
 obtain⟨p7,q7,iU,hq7,hC7⟩:=hL7.ex;obtain⟨tv7,RT7,pn7,pt7,ps7,hO7⟩:=hC7.op iU;have hg7:=hg6.sub hq7;refine aP (alT hO7.kb) ?_;rintro _ m8⟨v8,l8,p8,rfl,k8,hv8,hl8⟩;conv=>whnf
 have hl8:l8.length=2:=hl8;have hO8:=hO7.grow (k8.sub);obtain⟨a8,c8,rfl⟩:=hv8.il.ia.shape;rw[hl8];conv=>whnf
 refine aP (aiI (i:=2) (bf:=X3.bf) (A:=aaI (cy (SI 3) w33 3 n3).A []) (D:=λ_ _=>True) hO8 rfl (λhj hf=>(abe (c:=SI 3) (w:=w33) (qt:=0) (n:=3) hg7 hj hf (by have:=hI3.ns;omega) (by decide) (by decide) (by decide) (by decide)).mono λr m' ⟨X,ub,p',q',e,hb,h1,h2,h3,_,_⟩=>⟨X,p',q',_,e,hb,h1,h2,h3,trivial⟩)) ?_;rintro _ m9⟨X9,N9,rfl,_,hL9⟩;conv=>whnf
 obtain⟨p9,q9,zv,hq9,hC9⟩:=hL9.ex;obtain⟨tv9,RT9,pn9,pt9,ps9,hO9⟩:=hC9.op zv
 have ht9:RT9.map (λr=>(r.1,r.2.1))=[(2,⟨5,0,[]⟩)]:=by
  have h1:=hO9.te;have h2:=as5 apO;rw[h1]
  show[]++N3.BI.map (λa=>(((1:Nat):Int)+1,a))=_
  rw[h2];rfl
 obtain⟨r9,hR9,hr9⟩:=auG ht9
 have hl9:∀r∈RT9,r.2.1.l.length<=1000000:=λr hr=>by
  rw[hR9]at hr;rw[aL.1 hr,(Prod.mk.inj hr9).2];decide
 refine aP (anM hO9 (by rw[hR9];simp) hl9) ?_;rintro _ m10⟨v10,p10,R10,rfl,nr,atM,apQ⟩;conv=>whnf
 obtain⟨r10,aCB,at5⟩:=auG (apQ.trans (hO9.te.symm.trans ht9));subst aCB;obtain⟨aF3,aIn,s10⟩:=r10;obtain⟨rfl,rfl⟩:=Prod.mk.inj at5;obtain⟨b10,o10,c10,rfl,aw3⟩:=atM.el.ea.real (i:=0) (by simp);have aw3:=(aw3 0 (by simp)).sub (nr.sub (a:=p10));have anP:=hO9.grow (nr.sub (a:=m9));conv=>whnf
 refine xN ?_;conv=>whnf
 first|refine fU (aN (i:=0) anP.kb rfl) ?_ |refine bt (aN (i:=0) anP.kb rfl) ?_
 conv=>whnf
 refine xN ?_;conv=>whnf
 obtain⟨lvb,azb⟩:=anP.auM (i:=0) (X:=X1) (N:=N5) rfl;obtain⟨pi,j,f1,f2,f3,_⟩:=anP.node (i:=0) (s:=.up X1 N5) rfl;obtain⟨lv,pr,ps,pf,pb,pl,R,hn⟩:=y0.op f1 f2;obtain⟨bl,lv2,sv,AF⟩:=(hn.grow (f3.sub)).sr;have JR:gh N5.s.L y6=pJ:=by rw[hN5,hmL];rfl
 have hfk:(vj N5.s.L y6).isSome=true:=by rw[hN5,hmL];rfl
 have hG:=Db (k:=y6) AF (by rw[hN5,hmL];decide) (by rw[JR];decide);rw[JR,hfk]at hG
 first|refine fU (aN (i:=0) anP.kb rfl) ?_ |refine bt (aN (i:=0) anP.kb rfl) ?_
 conv=>whnf
 first|refine fU (yg azb) ?_ |refine bt (yg azb) ?_
 conv=>whnf
 refine aP (hG) ?_;rintro _ m11⟨a11,c11,p11,rfl,u7,_⟩;conv=>whnf
 have anO:=anP.grow (u7.sub (a:=m10));have alD:=aw3.sub (u7.sub (a:=m10));refine xY ?_;conv=>whnf
 refine xY ?_;conv=>whnf
 refine xY ?_;conv=>whnf
 refine xY ?_;conv=>whnf
 refine xY ?_;conv=>whnf
 refine xY ?_;conv=>whnf
 refine xY ?_;conv=>whnf
 refine xY ?_;conv=>whnf
 refine⟨⟨by omega,by simp⟩,?_⟩;conv=>whnf
 refine⟨_,fZ (j:=0) alD rfl,rfl,?_⟩;conv=>whnf
 refine xY ?_;conv=>whnf
 refine⟨⟨by omega,by simp⟩,?_⟩;conv=>whnf
 refine⟨_,fZ (j:=1) alD rfl,rfl,?_⟩;conv=>whnf
 refine xY ?_;conv=>whnf
 refine xY ?_;conv=>whnf
 refine xY ?_;conv=>whnf
 first|refine fU (afJ (i:=2) anO rfl) ?_ |refine bt (afJ (i:=2) anO rfl) ?_
 conv=>whnf
 refine xY ?_;conv=>whnf
 first|refine fU (aq3 (n:=9) (x:=⟨3,0,ByteArray.empty,(0,0,0),0,fP⟩) (s:=Nk) anO (.inr (show(3:Int)<9 by decide))) ?_ |refine bt (aq3 (n:=9) (x:=⟨3,0,ByteArray.empty,(0,0,0),0,fP⟩) (s:=Nk) anO (.inr (show(3:Int)<9 by decide))) ?_
 conv=>whnf
 refine xY ?_;conv=>whnf
 first|refine fU (oo anO.kb) ?_ |refine bt (oo anO.kb) ?_
 conv=>whnf
 exact⟨rfl,mQ.trans (rO.trans (EK.trans (Zx.trans (NM.trans (Zw.trans (hq7.trans (hq9.trans anO.gM)))))))⟩
variable {m:aD}{c:Rc}{w:Bk}{n:Int}
theorem DB:eN tP 7 [i64 c.jv,i64 c.AO,i64 c.xm] m [bR c.ok]:=by
 have hf:∀{p:Prop} [Decidable p],(¬p->¬c.ok=true)->decide p=false->c.ok=false:=λh e=>by
  rw[Bool.eq_false_iff];exact h (aj e)
 have ho:=@Rc.lj c
 refine ap Tryz.func7 ?_;conv=>whnf
 iterate 5
  apply bI<;>intro h;rotate_left
  ·conv=>whnf
   rw[hf (by intro h1 h2;have:=ho.1 h2;omega) h];exact rR
  have h:=ah h;conv=>whnf
 refine⟨?_,rfl⟩
 have:decide (c.xm<=c.jv)=c.ok:=by
  rw[nV,decide_eq_true_iff,ho];omega
 exact be (λb=>[bR b]) this
theorem A4:eN tP 8 [i64 w.gM,i64 w.cap,i64 w.dG,i64 w.gI] m [bR w.ok]:=by
 have hf:∀{p:Prop} [Decidable p],(¬p->¬w.ok=true)->decide p=false->w.ok=false:=λh e=>by
  rw[Bool.eq_false_iff];exact h (aj e)
 have ho:=@Bk.lj w
 refine ap Tryz.func8 ?_;conv=>whnf
 iterate 7
  apply bI<;>intro h;rotate_left
  ·conv=>whnf
   rw[hf (by intro h1 h2;have:=ho.1 h2;omega) h];exact rR
  have h:=ah h;conv=>whnf
 refine⟨?_,rfl⟩
 have:decide (w.gI<=1073741824)=w.ok:=by
  rw[nV,decide_eq_true_iff,ho];omega
 exact be (λb=>[bR b]) this
theorem ahL(hg:jZ m)(hn: -9223372036854775808<=n/\n<=9223372036854775807):bi tP 3 [.a (Sq c w),i64 n] m λr m'=>r=[bR true]/\cL m m':=by
 refine c7 c3 Tryz.func3 ?_;conv=>whnf
 by_cases hr:(c.ok&&w.ok)=true
 case' pos=>
  obtain⟨h1,h2⟩:c.ok=true/\w.ok=true:=by simpa using hr
  refine aP (ajs hg h1 h2) ?_;rintro _ mm⟨ca,na,S,p1,q1,rfl,bM,mQ,hC1,hF⟩;conv=>whnf
  first|refine fU (DB) ?_ |refine bt (DB) ?_
  conv=>whnf
  rw[h1];refine xY ?_;conv=>whnf
  first|refine fU (A4) ?_ |refine bt (A4) ?_
  conv=>whnf
  rw[h2];refine xN ?_;conv=>whnf
  refine xN ?_;conv=>whnf
  refine xN ?_;conv=>whnf
  have wq:cL m mm:=mQ.trans (bM.sub)
 case' neg=>
  have hr:(c.ok&&w.ok)=false:=by simpa using hr
  first|refine fU (alU hr) ?_ |refine bt (alU hr) ?_
  conv=>whnf
  first|refine fU (DB) ?_ |refine bt (DB) ?_
  conv=>whnf
  have wq:cL m m:=cL.refl m;refine⟨λh1=>?a2,λh1=>?a3⟩
 case' a2=>
  have h1:c.ok=true:=h1;have h2:w.ok=false:=by rw[h1]at hr;simpa using hr
  conv=>whnf
  first|refine fU (A4) ?_ |refine bt (A4) ?_
  conv=>whnf
  rw[h2];refine xN ?_;conv=>whnf
  refine xN ?_;conv=>whnf
  refine xY ?_;conv=>whnf
  refine xN ?_;conv=>whnf
 case' a3=>
  have h1:c.ok=false:=h1;rw[h1];conv=>whnf
  refine xN ?_;conv=>whnf
  refine xN ?_;conv=>whnf
  refine xN ?_;conv=>whnf
 all_goals
  intro z hz;conv=>whnf
  first|refine fU (akc mv) ?_ |refine bt (akc mv) ?_
  conv=>whnf
  first|refine fU (akc (nz (aD.bg ..))) ?_ |refine bt (akc (nz (aD.bg ..))) ?_
  conv=>whnf
  refine xY ?_;conv=>whnf
  refine xY ?_;conv=>whnf
  first|refine fU (R7 mv) ?_ |refine bt (R7 mv) ?_
  conv=>whnf
  refine xY ?_;conv=>whnf
  first|refine fU (R7 (nz (aD.bg ..))) ?_ |refine bt (R7 (nz (aD.bg ..))) ?_
  conv=>whnf
  refine xY ?_;conv=>whnf
  first|refine fU (aqf mv) ?_ |refine bt (aqf mv) ?_
  conv=>whnf
  refine xY ?_;conv=>whnf
  first|refine fU (alC (nz (aD.bg ..))) ?_ |refine bt (alC (nz (aD.bg ..))) ?_
  conv=>whnf
  refine xY ?_;conv=>whnf
  first|refine fU (zdo (x:=⟨3,0,ByteArray.empty,(0,0,0),0,fP⟩) (s:=Nk) mv) ?_ |refine bt (zdo (x:=⟨3,0,ByteArray.empty,(0,0,0),0,fP⟩) (s:=Nk) mv) ?_
  conv=>whnf
  refine xY ?_;conv=>whnf
  first|refine fU (ayg) ?_ |refine bt (ayg) ?_
  conv=>whnf
  refine xY ?_;conv=>whnf
  first|refine fU (anU (nz (aD.bg ..))) ?_ |refine bt (anU (nz (aD.bg ..))) ?_
  conv=>whnf
  refine xY ?_;conv=>whnf
  first|refine fU (zup) ?_ |refine bt (zup) ?_
  conv=>whnf
  first|refine fU (ahP (aD.bg ..)) ?_ |refine bt (ahP (aD.bg ..)) ?_
  conv=>whnf
  first|refine fU (ajm) ?_ |refine bt (ajm) ?_
  conv=>whnf
  refine xY ?_;conv=>whnf
  first|refine fU (atb) ?_ |refine bt (atb) ?_
  conv=>whnf
  have QY:=wq.trans (aD.bT asR hz)
 case' a2=>
  refine xY ?_;conv=>whnf
  refine aP (KW (hg.sub QY)) ?_;rintro _ m5⟨rfl,eD⟩;conv=>whnf
  refine xY ?_;conv=>whnf
  exact⟨rfl,QY.trans eD⟩
 case' a3=>
  refine aP (KW (hg.sub QY)) ?_;rintro _ m5⟨rfl,eD⟩;conv=>whnf
  refine xY ?_;conv=>whnf
  exact⟨rfl,QY.trans eD⟩
 case' pos=>
  refine xN ?_;conv=>whnf
  refine aP (KW (hg.sub QY)) ?_;rintro _ m5⟨rfl,eD⟩;conv=>whnf
  refine xY ?_;conv=>whnf
  refine xY ?_;conv=>whnf
  obtain⟨tv1,RT1,pn1,pt1,ps1,hO1⟩:=hC1.op bM;have hO5:=hO1.grow ((aD.bT asR hz).trans eD);refine aP (alT hO5.kb) ?_;rintro _ m6⟨v6,l6,p6,rfl,gC,hv6,hl6⟩;conv=>whnf
  try refine⟨λ_ h=>(by cases h),?_⟩
  conv=>whnf
  obtain⟨a6,c6,rfl⟩:=hv6.il.ia.shape
  have hup:(l6.length:Int)=c.jv:=by
   have cM:S.filter upB=S:=bY.2 λs hs=>by
    obtain⟨i,hi,rfl⟩:=dc hs;obtain⟨X,ns,e,_⟩:=hF i _ (az hi);rw[e];rfl
   have h8:=hO5.kb.le;have h9:S.length=c.jv.toNat:=hO5.n;have h8:1<=c.jv/\c.jv<=8:=h8;rw[hl6]
   show((S.filter upB).length:Int)=_
   rw[cM];omega
  have hO6:=hO5.grow (gC.sub (a:=m5));have aqb:=QY.trans (eD.trans (gC.sub (a:=m5)));have hcc:rD (Sq c w) (Sq c w)=true:=by simp[rD,ceq]
  conv=>whnf
  rw[hup];refine xY ?_;conv=>whnf
  by_cases zw:1<=n/\n<=c.jv
  ·have h9:S.length=c.jv.toNat:=hO5.n
   obtain⟨X,ns,e,_⟩:=hF (n-1).toNat _ (az (by omega));have qW:S[(n-1).toNat]?=some (.up X _):=(az (by omega)).trans (be some e);have U5:=aN hO6.kb (i:=(n-1).toNat) qW;rw[show(((n-1).toNat:Nat):Int)+1=n by omega]at U5
   first|refine fU (U5) ?_ |refine bt (U5) ?_
   conv=>whnf
   refine⟨λ_=>?_,λh=>absurd h (by(rw[gz]at h;omega))⟩;conv=>whnf
   rw[bB zw.2];refine xY ?_;conv=>whnf
   first|refine fU (oo hO6.kb) ?_ |refine bt (oo hO6.kb) ?_
   conv=>whnf
   exact⟨be (λb=>[bR b]) hcc,aqb⟩
  ·first|refine fU (y9 (n:=n) hO6.kb (by show n<1\/c.jv<n;omega)) ?_ |refine bt (y9 (n:=n) hO6.kb (by show n<1\/c.jv<n;omega)) ?_
   conv=>whnf
   apply bI<;>intro h
   ·have h:1<=n:=ah h
    conv=>whnf
    rw[aY (by omega:¬n<=c.jv)];refine xY ?_;conv=>whnf
    first|refine fU (oo hO6.kb) ?_ |refine bt (oo hO6.kb) ?_
    conv=>whnf
    exact⟨be (λb=>[bR b]) hcc,aqb⟩
   ·conv=>whnf
    refine xY ?_;conv=>whnf
    first|refine fU (oo hO6.kb) ?_ |refine bt (oo hO6.kb) ?_
    conv=>whnf
    exact⟨be (λb=>[bR b]) hcc,aqb⟩
end Go.E.Y
namespace Go.E
theorem ako{P:Program}{w:World}{r:Reach}{b0:Nat}{t:TypeId}{fs:_}{v:Value}(hu:P.underlying t=some (.struct fs))(h:Value.okWide P w r b0 t v):v= .agg (v.cells.toList).toArray:=by
 unfold Value.okWide at h;rw[hu]at h;obtain⟨cs,rfl,_⟩:=h;rfl
end Go.E
namespace Go.E.Y
open Go.Proofs
abbrev aqF:Sh:=.jo (.jo (.int .i64) (.jo (.int .i64) (.jo (.int .i64) .unit))) (.jo (.jo (.int .i64) (.jo (.int .i64) (.jo (.int .i64) (.jo (.int .i64) .unit)))) .unit)
theorem arR{m:aD}{cs:List Value}(h:tE m aqF cs):∃c w,cs=LB.cz (Sq c w):=by
 obtain⟨_,_,rfl,⟨_,_,rfl,⟨n1,rfl,_⟩,_,_,rfl,⟨n2,rfl,_⟩,_,_,rfl,⟨n3,rfl,_⟩,h4⟩,_,_,rfl,⟨_,_,rfl,⟨n5,rfl,_⟩,_,_,rfl,⟨n6,rfl,_⟩,_,_,rfl,⟨n7,rfl,_⟩,_,_,rfl,⟨n8,rfl,_⟩,h9⟩,h10⟩:=h;simp only[tE]at h4 h9 h10;subst h4 h9 h10;exact⟨⟨n1,n2,n3⟩,⟨n5,n6,n7,n8⟩,rfl⟩
end Go.E.Y
namespace Go.E
theorem Yg{H:Type}{enc:TypeId×Value->H}{P:Program}{w:World}{gM:Nat}{qg:Nat->Bool}{DR:Bool}{kJ:Nat}{t e:TypeId}{cs:List Value}{n:Nat}{k:IntKind}{zs:List Int}{p:List MemPlace}(ht:P.underlying t=some (.array n e))(he:P.underlying e=some (.int k))(hc:P.cellsOf e=1)(hct:P.cellsOf t=n)
  (h:DataW.trod enc P w gM qg DR kJ t cs=some (.agg (zs.map λz=>.lit (.int k z)),p)):cs=zs.map λz=>Value.int k z:=by
 obtain⟨xs,m,_,ex,hl,hn,xz⟩:=DataW.trod_array ht h;rw[hct]at hl;have e1:xs.map (·.1)=zs.map λz=>.lit (.int k z):=(DataW.agg.inj (Prod.mk.inj ex).1).symm;have hz:zs.length=n:=by have:=be List.length e1;simp at this;omega
 refine List.ext_getElem? λi=>?_;by_cases hi:i<n
 ·have h1:=xz i hi
  rw[hc,eG,az (by omega)]at h1;obtain⟨z,f1,f2,_⟩:=DataW.trod_int he h1;have e4:(xs.map (·.1))[i]?=(zs.map λz=>(DataW.lit (.int k z):DataW H))[i]?:=by rw[e1]
  rw[cj,cj,az (by omega:i<xs.length),az (by omega:i<zs.length),f2]at e4;have FN:z=zs[i]:=by simpa using e4
  have h0:((cs.drop i).take 1)[0]?=some (.int k z):=by rw[f1];rfl
  rw[cj,az (by omega:i<zs.length),<-FN];simpa using h0
 ·rw[jr (by omega),jr (by simp;omega)]
theorem Ge{H:Type}{enc:TypeId×Value->H}{P:Program}{w:World}{gM:Nat}{qg:Nat->Bool}{kJ:Nat}{t:TypeId}{cs:List Value}{ms:_}{name:String}{d:DataW H}{p:List MemPlace}(ht:P.underlying t=some (.interface ms))
  (h:DataW.trod enc P w gM qg false kJ t cs=some (.iface name d,p)):∃u v,cs=[.iface u v]:=by
 cases kJ with
 |zero=>simp[DataW.trod]at h
 |succ m=>
  unfold DataW.trod at h;rw[ht]at h
  split at h<;>simp_all
theorem F8{P:Program}{W:World}{name:String}{g:Nat}{cs:Array Value}(hg:P.globalNamed name=some g)(h:W.var? P name=some cs):∃T fr,W.heap[g]?=some (.cells cs T fr):=by
 unfold World.var? at h;rw[hg]at h;simp only[Option.bind_some]at h
 split at h
 ·rename_i arr T fr hb
  injection h with h;subst h
  exact⟨T,fr,hb⟩
 ·cases h
end Go.E
namespace Go.E.Y
open Go.Proofs
theorem ad5{W:World}(h:laidMetH Tryz.prog [("math/bits.deBruijn32tab",Go.Proofs.YtommkhakiadgjaaGreatDoor.Rows.laid_math_bits_deBruijn32tab),("math/bits.deBruijn64tab",Go.Proofs.YtommkhakiadgjaaGreatDoor.Rows.laid_math_bits_deBruijn64tab),("internal/strconv.uint64pow10",Go.Proofs.YtommkhakiadgjaaGreatDoor.Rows.laid_internal_strconv_uint64pow10),("strconv.ErrRange",Go.Proofs.YtommkhakiadgjaaGreatDoor.Rows.laid_strconv_ErrRange),("strconv.ErrSyntax",Go.Proofs.YtommkhakiadgjaaGreatDoor.Rows.laid_strconv_ErrSyntax)] W):jZ (λb=>W.heap[b]?):=by
 rw[MakeChecks.laidMetH_plain _ _ _ (by kernel_rfl)]at h;obtain⟨ps,hl,_,_⟩:=h;obtain⟨g1,t1,c1,f1,p1,q1,Ag,Fa,lZ,LW,hl,_⟩:=hl;obtain⟨g2,t2,c2,f2,p2,q2,hg2,JI,lD,hd2,hl,_⟩:=hl;obtain⟨g3,t3,c3,f3,p3,q3,hg3,W5,tX,hd3,hl,_⟩:=hl;obtain⟨g4,t4,c4,f4,p4,q4,hg4,W4,QZ,hd4,hl,_⟩:=hl;obtain⟨g5,t5,c5,f5,p5,q5,hg5,W3,hv5,hd5,hl,_⟩:=hl;obtain rfl:=eL (aqU.symm.trans hg3);obtain rfl:=eL (aqW.symm.trans hg4);obtain rfl:=eL (aqV.symm.trans hg5);obtain⟨T3,r3,fN⟩:=F8 hg3 tX;obtain⟨T4,r4,hh4⟩:=F8 hg4 QZ;obtain⟨T5,r5,hh5⟩:=F8 hg5 hv5;obtain rfl:=eL ((show(Tryz.prog.globals[0]?).map (·.type)=some 499 by kernel_rfl).symm.trans W5);obtain rfl:=eL ((show(Tryz.prog.globals[3]?).map (·.type)=some 353 by kernel_rfl).symm.trans W4);obtain rfl:=eL ((show(Tryz.prog.globals[2]?).map (·.type)=some 353 by kernel_rfl).symm.trans W3);have k3:=Yg (zs:=Lib.pow10Tab) Tryz.underlying499 Tryz.underlying47 (by kernel_rfl) (by kernel_rfl) hd3;obtain⟨u4,w4,k4⟩:=Ge Tryz.underlying353 hd4;obtain⟨u5,w5,k5⟩:=Ge Tryz.underlying353 hd5;refine⟨⟨u5,w5,T5,r5,?_⟩,⟨u4,w4,T4,r4,?_⟩,⟨T3,r3,?_⟩⟩
 ·rw[hh5,<-iw (xs:=c5),k5]
 ·rw[hh4,<-iw (xs:=c4),k4]
 ·rw[fN,<-iw (xs:=c3),k3]
end Go.E.Y
