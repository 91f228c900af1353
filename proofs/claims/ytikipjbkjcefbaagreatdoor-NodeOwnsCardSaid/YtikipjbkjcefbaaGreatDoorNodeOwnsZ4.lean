import Derived.Test.YtikipjbkjcefbaaGreatDoorNodeOwnsZ3
import Derived.ProofKit
import Derived.OpenShut
import Derived.ChangeArms
set_option maxHeartbeats 40000000
set_option maxRecDepth 100000
set_option linter.unusedVariables false
noncomputable section
namespace Go.E.Y
open Go.Proofs
theorem af5:∀{fK F:List Fl},(fK.Pairwise λa b=>a.born≠b.born)->(∀f∈fK,f∈F)->∃R,(fK++R).Perm F
 |[],F,_,_=>⟨F,mP _⟩
 |x::vs,F,hv,hF=>by
  obtain⟨h1,h2⟩:=bh.1 hv;obtain⟨A,B,rfl⟩:=List.append_of_mem (hF x (by simp))
  obtain⟨R,hR⟩:=af5 (fK:=vs) (F:=A++B) h2 λf hf=>by
   have:=hF f (by simp[hf]);rcases aR.1 this with h|h
   ·exact lJ _ h
   ·rcases aU.1 h with rfl|h
    ·exact absurd rfl (h1 f hf)
    ·exact jp _ h
  refine⟨R,?_⟩;exact(List.Perm.cons x hR).trans List.perm_middle.symm
variable{fK F:List Fl}
theorem aw0(hv:fK.Pairwise λa b=>a.born≠b.born)(hF:∀f∈fK,f∈F)(hb:F.Pairwise λa b=>a.born≠b.born)(cM:∀f∈F,∃g∈fK,g.born=f.born):fK.Perm F:=by
 obtain⟨R,hR⟩:=af5 hv hF
 cases R with
 |nil=>simpa using hR
 |cons r R=>
  exfalso;have hp:=(uJ (λh=>Ne.symm h) hR).2 hb;have hr:r∈F:=hR.subset (by simp);obtain⟨g,hg,e⟩:=cM r hr;exact(cm.1 hp).2.2 g hg r (by simp) e
def qU(F:List Fl):Nat:=(F.map λf=>f.l.length).sum
theorem Gg{G:List Fl}(h:F.Perm G):qU F=qU G:=(h.map _).sum_nat
theorem Yh(hv:fK.Pairwise λa b=>a.born≠b.born)(hF:∀f∈fK,f∈F):qU fK<=qU F:=by
 obtain⟨R,hR⟩:=af5 hv hF;rw[<-Gg hR];simp only[qU,bD,List.sum_append];omega
theorem WQ(hv:fK.Pairwise λa b=>a.born≠b.born)(hF:∀f∈fK,f∈F):fK.length<=F.length:=by
 obtain⟨R,hR⟩:=af5 hv hF;rw[<-hR.length_eq,ax];omega
structure Vis(F fK:List Fl):Prop where
 born:fK.Pairwise λa b=>a.born≠b.born
 sub:∀f∈fK,f∈F
theorem Vis.start(F:List Fl):Vis F []:=⟨by simp,by simp⟩
variable{f:Fl}
theorem Vis.step(h:Vis F fK)(hf:f∈F)(hn:∀g∈fK,g.born≠f.born):Vis F (fK++[f]):=by
 refine⟨cm.2 ⟨h.born,by simp,λa ha b hb=>?_⟩,λg hg=>?_⟩
 ·grind
 ·rcases aR.1 hg with hg|hg
  ·exact h.sub g hg
  grind
theorem WR{e:lq ByteArray}(he:e∈iW (fK.map (·.born)) (F.map Fl.kg)):∃f∈F,e=f.kg/\∀g∈fK,g.born≠f.born:=by
 obtain⟨h1,h2⟩:=cH.1 he;obtain⟨f,hf,rfl⟩:=aV.1 h1;refine⟨f,hf,rfl,λg hg e=>?_⟩;simp only[Fl.kg,dH,jS,gz]at h2
 grind
theorem Qx(h:Vis F fK)(hb:F.Pairwise λa b=>a.born≠b.born)(he:iW (fK.map (·.born)) (F.map Fl.kg)=[]):fK.Perm F:=by
 refine aw0 h.born h.sub hb λf hf=>?_;have:=gP.1 he f.kg (aV.2 ⟨f,hf,rfl⟩);simp only[Fl.kg,dH,jS,gz,lM]at this
 grind
theorem hSs:∃ti,tt.get 142=some ti/\ti.k= .slice 9:=⟨_,rfl,rfl⟩
theorem hSt:∃ti,tt.get 9=some ti/\ti.size=1/\ti.bytes=16/\(LB.cz ti.zero).length=1:=⟨_,rfl,rfl,rfl,rfl⟩
abbrev sc(ss:List ByteArray):List Value:=ss.map Value.string
def So(m:aD)(v:Value)(ss:List ByteArray):Prop:=mf m 9 1 v (sc ss)
def Sl(m:aD)(v:Value)(ss:List ByteArray):Prop:=gq m 1 v (sc ss)
variable{m:aD}{v:Value}{ss:List ByteArray}
theorem So.sl(h:So m v ss):Sl m v ss:=mf.ky h
theorem So.sub{m':aD}(h:So m v ss)(hs:cL m m'):So m' v ss:=mf.sub h hs
theorem Sl.sub{m':aD}(h:Sl m v ss)(hs:cL m m'):Sl m' v ss:=gq.sub h hs
theorem So.nil(m:aD):So m (.slice none 0 0) []:=.inl ⟨rfl,rfl⟩
theorem Sl.shape(h:Sl m v ss):∃a c,v= .slice a ss.length c:=by
 rcases h with⟨c,rfl,e⟩|⟨b,o,c,n,arr,t,fr,rfl,_,e,_⟩
 ·simp_all
 simp_all
variable{i:Nat}
theorem Sl.real(h:Sl m v ss)(hi:i<ss.length):∃b o c,v= .slice (some ⟨b,o,none⟩) ss.length c/\∀j (hj:j<ss.length),gR m b (o+j)=some (.string ss[j]):=by
 rcases h with⟨c,rfl,e⟩|⟨b,o,c,n,arr,t,fr,rfl,g1,e,_,g2,_⟩
 ·simp_all
 ·have:ss.length=n:=by simpa using e
  exact⟨b,o,c,by rw[this],λj hj=>aF g1 (g2 j _ (by simp[hj]))⟩
theorem aim{x:ByteArray}:bF tP (.buildSlice 142 1 [0]) [.v (.string x)] m λr m'=>∃b,m b=none/\r=[.v (.slice (some ⟨b,0,none⟩) 1 1)]/\m'=m.set b (.cells #[.string x] 9):=by
 obtain⟨ti,h1,h2⟩:=hSs;obtain⟨ei,g1,g2,g3,g4⟩:=hSt;exact(dm (n:=1) eR h1 h2 g1 rfl rfl (by simp[CV.cs,g2]) (by omega) (by omega)).mono λr m' ⟨b,e1,e2,e3⟩=>⟨b,e1,e2,e3⟩
variable{p:aD}
theorem aoI{ls:List aD}{b':Nat}{x:ByteArray}{y:Value}(hs:aq m ls)(hi:ls[i]?=some p) (hb:m b'=none) (hy:So p y ss) (hl:ss.length<=10000000):
  bF tP (.builtin .append [142,142]) [.v y,.v (.slice (some ⟨b',0,none⟩) 1 1)] (m.set b' (.cells #[.string x] 9)) λr m'=>∃y' p',r=[.v y']/\aq m' (ls.set i p')/\So p' y' (ss++[x]):=by
 obtain⟨ti,h1,h2⟩:=hSs;obtain⟨ei,g1,g2,g3,g4⟩:=hSt;have bM:=hs.new hb (.cells #[.string x] 9);have e1:fg y=ss.length:=by obtain⟨a,c,rfl⟩:=hy.sl.shape;rfl
 have e2:fg (.slice (some ⟨b',0,none⟩) 1 1)=1:=rfl
 have g:s5 (m.set b' (.cells #[.string x] 9)) ei.size ti.k (.slice (some ⟨b',0,none⟩) 1 1) (sc [x]):=by
  rw[h2,g2];exact .inl ⟨_,rfl,.inl (.inr ⟨b',0,1,1,_,_,_,rfl,aD.bg ..,rfl,aW _,λj u hu=>by rw[cD,bz];exact hu,by simp[Value.oneCell']⟩)⟩
 have I7:mf p 9 ei.size y (sc ss):=by rw[g2];exact hy
 refine(kC (news:=sc [x]) eR h1 h2 g1 h1 (by rw[g2,g4]) bM (i:=i+1) (by simpa using hi) I7 g (by rw[e1,e2,g3];omega) (by rw[e1,e2];omega)).mono λr m' ⟨v',p',q1,q2,q3⟩=>⟨v',p',q1,q2.dV 0,?_⟩;have:=q3.ux;rw[g2]at this;rw[So,sc,bD];exact this
theorem DF(a b c:List UInt8)(h:decide (a<=b)=true)(k:decide (b<=c)=true):decide (a<=c)=true:=bB (List.le_trans (ah h) (ah k))
theorem DG(a b:List UInt8):(decide (a<=b)||decide (b<=a))=true:=by
 grind
theorem Yu{l l':List (List UInt8)}(h:l.Perm l'):(l.mergeSort λx y=>decide (x<=y))=l'.mergeSort λx y=>decide (x<=y):=
 List.Perm.eq_of_pairwise (le:=λa b=>decide (a<=b)=true) (λa b _ _ h1 h2=>List.le_antisymm (ah h1) (ah h2)) (ta DF DG l) (ta DF DG l')
  (((qR l _).trans h).trans (qR l' _).symm)
theorem Yv{a b:List ByteArray}(h:a.Perm b):ut a=ut b:=by
 rw[ut,ut,Yu (h.map tq)]
def acI(F:List Fl):List ByteArray:=ut (F.map (·.name))
theorem Nu{P:Fl->Prop}(h:∀f∈F,P f){Q:lq ByteArray->Prop}(hq:∀f,P f->Q f.kg):∀e∈F.map Fl.kg,Q e:=λe he=>by
 obtain⟨f,hf,rfl⟩:=aV.1 he;exact hq f (h f hf)
variable{bf bm nb ns clock:Nat}{q:Int}
theorem KA(h:FS m bf bm q nb ns clock F)(ht:qU F<=1000000000000):bi tP 284 [fy bf] m λr m'=>r=[i64 (qU F)]/\cL m m':=by
 refine ub Tryz.func284 ?_;refine xY ?_;refine xM h.sN ?_;refine .mk _ (x3 (P:=tP) Tryz.underlying145 h.map) ?_;rintro _ _⟨it,ZC,rfl,rfl⟩;refine .mk (ι:=List Fl) (λfK=>F.length-fK.length) (λfK mm=>Vis F fK/\mm=m.set it (jx bm clock (fK.map (·.born)))) (λfK=>[(3,.c (i64 (qU fK))),(12,.c (fy it))]) (λ_=>[]) [] ⟨Vis.start F,rfl⟩ ?_ ?_
 ·exact Cr
 rintro fK mm⟨hv,rfl⟩;have EO:(m.set it (jx bm clock (fK.map (·.born)))) bm=some (mU F clock):=aD.bT _ ZC _ _ h.map;refine .mk _ (A8 (P:=tP) (aD.bg ..) EO (Nu h.ok λf hf=>hf.born) (Nu h.ok λf _=>rfl) (λ_=>rfl)) ?_;rintro _ m' (⟨he,rfl,rfl⟩|⟨e,he,rfl,rfl⟩)
 ·refine xN ?_
  have hp:=Qx hv h.CE he;exact⟨by rw[Gg hp],aD.bT _ ZC⟩
 ·obtain⟨f,hf,rfl,hn⟩:=WR he
  have lD:=hv.step hf hn;have hlen:=WQ lD.born lD.sub;have ak1:=Yh lD.born lD.sub;have et:qU (fK++[f])=qU fK+f.l.length:=by simp[qU]
  rw[ax,eV]at hlen;rw[aD.set_set];have EO:(m.set it (jx bm clock (fK.map (·.born)++[f.kg.b]))) bm=some (mU F clock):=aD.bT _ ZC _ _ h.map;have hfx:(m.set it (jx bm clock (fK.map (·.born)++[f.kg.b]))) f.bx=some (gW f.v f.fB):=aD.bT _ ZC _ _ (h.mem hf);obtain⟨a,c,Jb⟩:=(h.bytes hf).lb.shape;rw[mH]at Jb;refine xY ?_;refine .mk _ (yL (P:=tP) (aD.bg ..) EO (aV.2 ⟨f,hf,rfl⟩) (cG.2 h.CE) rfl rfl) ?_;rintro _ _⟨rfl,rfl⟩;conv=>whnf
  rw[Jb]at hfx;refine xM hfx ?_;have ew:IntKind.i64.wrap ((qU fK:Int)+(f.l.length:Int))=((qU (fK++[f]):Nat):Int):=by rw[et,wi];omega
  refine⟨fK++[f],⟨lD,by rw[bD];rfl⟩,by simp;omega,?_⟩;conv=>whnf
  repeat (refine And.intro (by first|with_reducible rfl|(first|exact cI ew)|exact cI (wi)|exact wi|rfl) ?_;conv=>whnf)
  exact xT
theorem UA(h:FS m bf bm q nb ns clock F)(hl:F.length<=1000000):bi tP 58 [fy bf] m λr m'=>∃v p,r=[.v v]/\aq m' [p,m]/\So p v (acI F):=by
 refine ub Tryz.func58 ?_;refine xY ?_;refine xM h.sN ?_;refine .mk _ (x3 (P:=tP) Tryz.underlying145 h.map) ?_;rintro _ _⟨it,ZC,rfl,rfl⟩;refine .mk (ι:=List Fl×Value) (λi=>F.length-i.1.length) (λ⟨fK,v⟩ mm=>Vis F fK/\∃p,aq mm [p,blk1 it (jx bm clock (fK.map (·.born))),m]/\So p v (fK.map (·.name))) (λ⟨fK,v⟩=>[(3,.c (.v v)),(11,.c (fy it))]) (λ_=>[]) ([],.slice none 0 0) ⟨Vis.start F,iI,((aq.one m).new ZC _).cA,So.nil _⟩ ?_ ?_
 ·exact Cr
 rintro⟨fK,v⟩ mm ⟨hv,p,hs,UX⟩;have EO:mm bm=some (mU F clock):=hs.sub (a:=m) (by simp) _ _ h.map;have alv:mm it=some (jx bm clock (fK.map (·.born))):=hs.sub (a:=blk1 it (jx bm clock (fK.map (·.born)))) (by simp) _ _ (aG ..);refine .mk _ (A8 (P:=tP) alv EO (Nu h.ok λf hf=>hf.born) (Nu h.ok λf _=>rfl) (λ_=>rfl)) ?_;rintro _ m' (⟨he,rfl,rfl⟩|⟨e,he,rfl,rfl⟩)
 ·refine xN ?_
  have hp:=Qx hv h.CE he;have hlen:fK.length=F.length:=hp.length_eq;refine aP ((Yw (m:=p) UX (by rw[aH];omega)).frame hs) ?_;rintro _ m2⟨p2,⟨rfl,lD⟩,bZ⟩;refine⟨v,p2,rfl,bZ.dV 1,?_⟩;rw[acI,<-Yv (hp.map _)];exact lD
 ·obtain⟨f,hf,rfl,hn⟩:=WR he
  have lD:=hv.step hf hn;have hlen:=WQ lD.born lD.sub;rw[ax,eV]at hlen;have bM:=hs.gu (i:=1) rfl (aG ..) (jx bm clock (fK.map (·.born)++[f.kg.b]));rw[cJ]at bM;have bM:aq _ [p,blk1 it (jx bm clock (fK.map (·.born)++[f.kg.b])),m]:=bM;have EO:(mm.set it (jx bm clock (fK.map (·.born)++[f.kg.b]))) bm=some (mU F clock):=bM.sub (a:=m) (by simp) _ _ h.map;refine xY ?_;refine .mk _ (yL (P:=tP) (aD.bg ..) EO (aV.2 ⟨f,hf,rfl⟩) (cG.2 h.CE) rfl rfl) ?_;rintro _ _⟨rfl,rfl⟩;refine .mk _ (aim) ?_;rintro _ _⟨b,hb,rfl,rfl⟩;refine .mk _ (aoI (i:=0) bM rfl hb UX (by rw[aH];omega)) ?_;rintro _ m'⟨v',p',rfl,qW,pY⟩;refine⟨(fK++[f],v'),⟨lD,p',by rw[bD];exact qW,by rw[bD];exact pY⟩,by simp;omega,?_⟩;exact Cr
section
variable {p:aD}{bf bm:Nat}{q:Int}{nb ns clock:Nat}{A B:List Fl}{f g:Fl}
theorem uX(A B:List Fl)(f:Fl)(X Y:aD):(X::Y::(A++f::B).flatMap Fl.parts).Perm (blk1 f.bx (gW f.v f.fB)::f.p::X::Y::(A++B).flatMap Fl.parts):=by
 rw[dx,dw,dx]
 have h1:(A.flatMap Fl.parts++(f.parts++B.flatMap Fl.parts)).Perm (f.parts++(A.flatMap Fl.parts++B.flatMap Fl.parts)):=by
  rw[<-aX,<-aX];exact List.Perm.append_right _ dY
 refine(List.Perm.cons X (List.Perm.cons Y h1)).trans ?_
 show(X::Y::(blk1 f.bx (gW f.v f.fB)::f.p::(A.flatMap Fl.parts++B.flatMap Fl.parts))).Perm _
 exact(dY (l₁:=[X,Y]) (l₂:=[blk1 f.bx (gW f.v f.fB),f.p])).append_right _
theorem FS.pick(h:FS p bf bm q nb ns clock (A++f::B)):aq p (blk1 f.bx (gW f.v f.fB)::f.p::blk1 bf (jd q bm nb ns)::blk1 bm (mU (A++f::B) clock)::(A++B).flatMap Fl.parts):=h.sp.fm (uX A B f _ _)
theorem acO(h1:g.name=f.name)(h2:g.bx=f.bx)(h3:g.born=f.born):(A++g::B).map Fl.kg=(A++f::B).map Fl.kg:=by
 simp only[bD,aZ,Fl.kg,h1,h2,h3]
theorem FS.put(h:FS p bf bm q nb ns clock (A++f::B)){p':aD}{oK kc:Nat}(h1:g.name=f.name)(h2:g.bx=f.bx)(h3:g.born=f.born)(ez:g.Ok clock)
  (hs:aq p' (blk1 f.bx (gW g.v g.fB)::g.p::blk1 bf (jd q bm oK kc)::blk1 bm (mU (A++f::B) clock)::(A++B).flatMap Fl.parts)):FS p' bf bm q oK kc clock (A++g::B):=by
 refine⟨?_,?_,?_,?_⟩
 ·have e:mU (A++g::B) clock=mU (A++f::B) clock:=by rw[mU,mU,acO h1 h2 h3]
  rw[e];rw[<-h2]at hs;exact hs.fm (uX A B g _ _).symm
 ·intro x hx
  rcases aR.1 hx with hx|hx
  ·exact h.ok x (by simp[hx])
  ·rcases aU.1 hx with rfl|hx
   ·exact ez
   ·exact h.ok x (by simp[hx])
 ·have:=h.Ex
  have e:(A++g::B).map (·.name)=(A++f::B).map (·.name):=by simp[h1]
  have h4:=cG.2 this
  grind
 ·have:=h.CE
  have e:(A++g::B).map (·.born)=(A++f::B).map (·.born):=by simp[h3]
  have h4:=cG.2 this
  grind
end
def Ls(F:List Fl)(name:ByteArray)(k:Fl->Fl):List Fl:=F.map λf=>if f.name=name then k f else f
variable{A B:List Fl}
theorem Ez{k:Fl->Fl}(hn:(A++f::B).Pairwise λa b=>a.name≠b.name):Ls (A++f::B) f.name k=A++k f::B:=by
 obtain⟨h1,h2,h3⟩:=cm.1 hn;obtain⟨h4,_⟩:=bh.1 h2
 have ea:A.map (λg=>if g.name=f.name then k g else g)=A:=by
  refine(eu λg hg=>?_).trans (lL A);rw[if_neg (h3 g hg f (by simp))];rfl
 have eb:B.map (λg=>if g.name=f.name then k g else g)=B:=by
  refine(eu λg hg=>?_).trans (lL B);rw[if_neg (Ne.symm (h4 g hg))];rfl
 rw[Ls,bD,aZ,ea,eb,aC rfl]
def Pp(F:List Fl)(name:ByteArray):List Fl:=Ls F name λf=>{f with fB:=f.l.length}
variable{name:ByteArray}
theorem Yo(h:FS m bf bm q nb ns clock F)(NQ:ns<=1000000000000000000):
  bi tP 245 [fy bf,.v (.string name)] m λr m'=>(r=[i64 (if (fh F name).isSome then 0 else 4)])/\FS m' bf bm q nb (if (fh F name).isSome then ns+1 else ns) clock (Pp F name):=by
 have hf:=rP (name:=name) h;refine ub Tryz.func245 ?_
 cases e:fh F name with
 |none=>
  rw[e]at hf;refine bt (hf) ?_;refine xN ?_;refine⟨rfl,?_⟩
  have:Pp F name=F:=by
   refine(eu λf hf=>?_).trans (lL F);have:=kT.1 e f hf;rw[if_neg (λe=>this (by simp[e]))];rfl
  rw[this];exact h
 |some f=>
  rw[e]at hf;obtain⟨A,B,rfl,_,rfl⟩:=oA e;have hm:=h.mem (wF e).1;obtain⟨a,c,Jb⟩:=(h.bytes (wF e).1).lb.shape;have ez:=h.ok f (by simp);have Ta:=h.pick;rw[mH]at Jb;refine bt (hf) ?_;refine xY ?_;conv=>whnf
  rw[Jb]at hm;refine xM hm ?_;refine⟨_,_,_,hm,⟨aW 2,by simp⟩,?_⟩;have bM:=Ta.gu (i:=0) rfl (aG ..) (gW f.v f.l.length);rw[cJ]at bM;have bM:aq (m.set f.bx (gW f.v f.l.length)) (blk1 f.bx (gW f.v f.l.length)::f.p::blk1 bf (jd q bm nb ns)::blk1 bm (mU (A++f::B) clock)::(A++B).flatMap Fl.parts):=bM;have kW:(m.set f.bx (gW f.v f.l.length)) bf=some (jd q bm nb ns):=bM.sub (a:=blk1 bf (jd q bm nb ns)) (by simp) _ _ (aG ..);rw[Jb]at bM kW;refine aP (XK (y:=1) kW rfl (by omega)) ?_;rintro _ m2⟨rfl,rfl⟩;have bZ:=bM.gu (i:=2) rfl (aG ..) (jd q bm nb (ns+1));rw[cJ]at bZ;refine⟨rfl,?_⟩;rw[Pp,Ez h.Ex];refine h.put (g:={f with fB:=f.l.length}) rfl rfl rfl ⟨ez.bs,ez.xA,aW _,ez.born⟩ ?_;rw[show({f with fB:=f.l.length}:Fl).v=Value.slice a f.l.length c from Jb];exact bZ
def aaf(F:List Fl)(name:ByteArray)(n:Nat)(v:Value):List Fl:=Ls F name λf=>{f with l:=f.l.take n,v:=v,fB:=min f.fB n}
def Wb(F:List Fl)(name:ByteArray)(n:Int)(e:Int)(F':List Fl):Prop:=match fh F name with
 |none=>e=4/\F'=F
 |some f=>if 0<=n/\n<=f.l.length then e=0/\∃v,F'=aaf F name n.toNat v else e=1/\F'=F
variable{l:List Int}{b o c n:Nat}
theorem Bs.aih{k:Nat}(h:Bs p (.slice (some ⟨b,o,none⟩) k c) l)(_:l.length=k)(hn:n<=l.length):Bs p (.slice (some ⟨b,o,none⟩) n n) (l.take n):=by
 rcases h with⟨e,_⟩|⟨b',o',c',n',arr,e,h1,h2,h3,h4,h5,h6⟩
 ·cases e
 ·cases e
  refine .inr ⟨b,o,n,n,arr,rfl,h1,by simp[bc];omega,aW _,by omega,λj u hu=>h5 j u ?_,VW⟩;rw[bc,cj,bN]at hu;rw[bc,cj]
  grind
theorem aeD{n:Int}(h:FS m bf bm q nb ns clock F)(hl:∀f∈F,f.l.length<=100000000):
  bi tP 194 [fy bf,.v (.string name),i64 n] m λr m'=>∃e F',r=[i64 e]/\FS m' bf bm q nb ns clock F'/\Wb F name n e F':=by
 have hf:=rP (name:=name) h;refine A4 awz Tryz.func194 ?_
 cases e:fh F name with
 |none=>
  rw[e]at hf;refine bt (hf) ?_;refine xY ?_;exact⟨4,F,rfl,h,by simp[Wb,e]⟩
 |some f=>
  rw[e]at hf;have DM:=(wF e).1;have hm:=h.mem DM;have yB:=h.bytes DM;have ez:=h.ok f DM;have hlf:=hl f DM;obtain⟨a,c,Jb⟩:=yB.lb.shape;rw[mH]at Jb;refine bt (hf) ?_;refine xN ?_;apply bI<;>intro h1
  ·have jc:=ah h1
   exact⟨1,F,rfl,h,by simp[Wb,e,show ¬(0<=n/\n<=(f.l.length:Int)) by omega]⟩
  have jc:=aj h1;rw[Jb]at hm;refine xM hm ?_;apply bI<;>intro h2
  ·have iD:=ah h2
   exact⟨1,F,rfl,h,by simp[Wb,e,show ¬(0<=n/\n<=(f.l.length:Int)) by omega]⟩
  have iD:=aj h2;obtain⟨k,rfl⟩:∃k:Nat,n=(k:Int):=⟨n.toNat,by omega⟩;have hk:k<=f.l.length:=by omega
  have hcr:∀v,Wb F name k 0 (aaf F name k v):=λv=>by
   have hc:(0<=(k:Int)/\(k:Int)<=(f.l.length:Int)):=by omega
   simp only[Wb,e];rw[aC hc,aA];exact⟨trivial,v,rfl⟩
  obtain⟨A,B,rfl,_,rfl⟩:=oA e;have Ta:=h.pick;have aAL:((min f.fB k:Nat):Int)=if (f.fB:Int)<(k:Int)then(f.fB:Int)else(k:Int):=by split<;>omega
  have qX:∀v,Bs f.p v (nc (f.l.take k))->∀m',m'=m.set f.bx (gW v (min f.fB k))->FS m' bf bm q nb ns clock (aaf (A++f::B) f.name k v):=λv hv m' rC=>by
   subst rC;have bM:=Ta.gu (i:=0) rfl (aG ..) (gW v (min f.fB k));rw[cJ]at bM;rw[aaf,Ez h.Ex];exact h.put (g:={f with l:=f.l.take k,v:=v,fB:=min f.fB k}) rfl rfl rfl ⟨hv,λx hx=>ez.xA x (bX hx),by simp only[aK];have:=ez.fB;omega,ez.born⟩ bM
  refine⟨.slice a f.l.length c,aF hm rfl,rfl,?_⟩;have ek:(k:Int).toNat=k:=by omega
  cases a with
  |none=>
   have hz:f.l.length=0/\c=0:=by
    rcases ez.bs with⟨e1,e2⟩|⟨b,o,c',n,arr,e1,_⟩
    ·rw[Jb]at e1
     injection e1 with _ e3 e4;exact⟨e3,e4⟩
    ·rw[Jb]at e1;cases e1
   obtain⟨QY,rfl⟩:=hz;obtain rfl:k=0:=by omega
   rw[QY]at hm Jb⊢
   repeat refine xS ?_
   refine⟨.int .i64 f.fB,aF hm rfl,rfl,?_⟩;conv=>whnf
   rw[show min (f.fB:Int) ((0:Nat):Int)=((min f.fB 0:Nat):Int) by omega];refine⟨_,_,_,hm,⟨Nat.zero_lt_succ _,by simp⟩,?_⟩;refine⟨_,_,_,aD.bg ..,⟨aW 2,by simp⟩,?_⟩;rw[aD.set_set];exact⟨0,_,rfl,qX (.slice none 0 0) (by rw[List.take_zero];exact Bs.nil _) _ rfl,hcr _⟩
  |some a=>
   have hsh:∃b o,a=⟨b,o,none⟩/\f.l.length<=c:=by
    rcases ez.bs with⟨e1,_⟩|⟨b,o,c',n,arr,e1,_,_,h5,_⟩
    ·rw[Jb]at e1;cases e1
    ·rw[Jb]at e1;cases e1;exact⟨b,o,rfl,h5⟩
   obtain⟨b,o,rfl,hc⟩:=hsh;have yB:Bs f.p (.slice (some ⟨b,o,none⟩) f.l.length c) (nc f.l):=by rw[<-Jb];exact ez.bs
   repeat refine xS ?_
   intro o' q1 q2
   obtain rfl:o'=o:=by
    by_cases h0:k=0
    ·have:=q2 (by omega);simpa using this
    ·have:=q1 (by omega);simpa [bK]using this
   refine⟨.int .i64 f.fB,aF hm rfl,rfl,?_⟩;conv=>whnf
   rw[show min (f.fB:Int) (k:Int)=((min f.fB k:Nat):Int) by omega];refine⟨_,_,_,hm,⟨Nat.zero_lt_succ _,by simp⟩,?_⟩;refine⟨_,_,_,aD.bg ..,⟨aW 2,by simp⟩,?_⟩;rw[aD.set_set];have hcc:=yB.aih (n:=k) (by rw[mH]) (by rw[mH];exact hk);rw[show(nc f.l).take k=nc (f.l.take k) by simp[nc]]at hcc;exact⟨0,_,rfl,qX (.slice (some ⟨b,o',none⟩) k k) hcc _ rfl,hcr _⟩
theorem T8(h:FS m bf bm q nb ns clock F)(hl:∀f∈F,f.l.length<=100000000):
  bi tP 190 [fy bf,.v (.string name)] m λr m'=>∃v p,r=[.v v,i64 (if (fh F name).isSome then 0 else 4)]/\aq m' [p,m]/\Bs p v (nc (((fh F name).map (·.l)).getD [])):=by
 have hf:=rP (name:=name) h;refine ub Tryz.func190 ?_
 cases e:fh F name with
 |none=>
  rw[e]at hf;refine bt (hf) ?_;refine xY ?_;exact⟨_,iI,rfl,(aq.one m).cA,Bs.nil _⟩
 |some f=>
  rw[e]at hf;have DM:=(wF e).1;have hm:=h.mem DM;have yB:=h.bytes DM;refine bt (hf) ?_;refine xN ?_;refine⟨f.v,aF hm rfl,yB.lb.one,?_⟩;refine aP (sQ yB.lb.la (by rw[mH];exact hl f DM)) ?_;rintro _ m1⟨v,p,rfl,hs,hv⟩;exact⟨v,p,rfl,hs,hv⟩
theorem IA(hA:∀x∈A,x.name≠f.name):Fi f.name ((A++f::B).map Fl.kg)=(A++B).map Fl.kg:=by
 induction A with
 |nil=>simp[Fi,Fl.kg]
 |cons x A ih=>
  have h1:=hA x (by simp);have ih:=ih λy hy=>hA y (by simp[hy]);rw[db,aZ,Fi,if_neg (λe=>h1 (by simpa [Fl.kg]using e.symm)),ih,db,aZ]
theorem FS.Qn(h:FS p bf bm q nb ns clock (A++f::B)):(∀x∈A,x.name≠f.name)/\∀x∈B,x.name≠f.name:=by
 obtain⟨h1,h2,h3⟩:=cm.1 h.Ex;exact⟨λx hx=>h3 x hx f (by simp),λx hx=>Ne.symm ((bh.1 h2).1 x hx)⟩
theorem FS.del{p':aD}(h:FS p bf bm q nb ns clock (A++f::B))(hp:p'=p.set bm (mU (A++B) clock)):
  FS p' bf bm q nb ns clock (A++B)/\aq p' (blk1 f.bx (gW f.v f.fB)::f.p::blk1 bf (jd q bm nb ns)::blk1 bm (mU (A++B) clock)::(A++B).flatMap Fl.parts):=by
 have hs:=h.pick.gu (i:=3) rfl (aG ..) (mU (A++B) clock);rw[cJ]at hs;have hs:aq p' (blk1 f.bx (gW f.v f.fB)::f.p::blk1 bf (jd q bm nb ns)::blk1 bm (mU (A++B) clock)::(A++B).flatMap Fl.parts):=by rw[hp];exact hs
 have iH:(A++B).Sublist (A++f::B):=List.Sublist.append (CZ A) (List.sublist_cons_self f B);exact⟨⟨hs.drop.drop,λx hx=>h.ok x (iH.subset hx),h.Ex.sublist iH,h.CE.sublist iH⟩,hs⟩
def rmF(F:List Fl)(name:ByteArray):List Fl:=F.filter λf=>!decide (f.name=name)
theorem KN(hA:∀x∈A,x.name≠f.name)(hB:∀x∈B,x.name≠f.name):rmF (A++f::B) f.name=A++B:=by
 have ha:A.filter (λg=>!decide (g.name=f.name))=A:=bY.2 λx hx=>by simp[hA x hx]
 have hb:B.filter (λg=>!decide (g.name=f.name))=B:=bY.2 λx hx=>by simp[hB x hx]
 rw[rmF,aaB,mO,ha,hb];simp
theorem abT(h:fh F name=none):rmF F name=F:=by
 refine bY.2 λx hx=>?_;have:=kT.1 h x hx
 grind
theorem WL(hb:m bm=some (mU F clock)):
  bF tP (.builtin .delete [145,9]) [.v (.map (some bm)),.v (.string name)] m λr m'=>r=[]/\m'=m.set bm (nk Value.string (Fi name (F.map Fl.kg)) clock):=
 Qs (P:=tP) Gp Tryz.underlying145 Tryz.underlying9 (k:=name) hb
theorem Nt{v:CV}(hb:m bm=some (mU F clock)):
  bF tP (.mapUpdate 145) [.v (.map (some bm)),.v (.string name),v] m λr m'=>m'=m.set bm (nk Value.string (uu name v clock (F.map Fl.kg)) (kS name clock (F.map Fl.kg))):=
 yr (P:=tP) Gp Tryz.underlying145 Tryz.underlying9 (k:=name) hb
theorem PS(h:FS m bf bm q nb ns clock F):
  bi tP 193 [fy bf,.v (.string name)] m λr m'=>r=[i64 (if (fh F name).isSome then 0 else 4)]/\FS m' bf bm q nb ns clock (rmF F name):=by
 have hf:=rP (name:=name) h;refine ub Tryz.func193 ?_
 cases e:fh F name with
 |none=>
  rw[e]at hf;refine bt (hf) ?_;refine xN ?_;exact⟨rfl,by rw[abT e];exact h⟩
 |some f=>
  rw[e]at hf;obtain⟨A,B,rfl,_,rfl⟩:=oA e;obtain⟨hA,hB⟩:=h.Qn;refine bt (hf) ?_;refine xY ?_;refine⟨.map (some bm),aF h.sN rfl,rfl,?_⟩;refine .mk _ (WL h.map) ?_;rintro _ _⟨rfl,rfl⟩;conv=>whnf
  rw[IA hA];exact⟨rfl,by rw[KN hA hB];exact(h.del rfl).1⟩
def fO(F:List Fl)(f:Fl)(name:ByteArray)(clock:Nat):List Fl:=match F with
 |[]=>[{f with name:=name,born:=clock}]
 |g::F=>if name=g.name then {f with name:=name,born:=g.born}::F else g::fO F f name clock
def pH(F:List Fl)(name:ByteArray)(clock:Nat):Nat:=if (fh F name).isSome then clock else clock+1
theorem Gz(f:Fl)(name:ByteArray)(clock:Nat):∀F:List Fl,uu name (.v (.pointer (some ⟨f.bx,0,none⟩))) clock (F.map Fl.kg)=(fO F f name clock).map Fl.kg
 |[]=>rfl
 |g::F=>by
  rw[aZ,uu,fO];by_cases h:name=g.name
  ·have h':name=g.kg.k:=h
   rw[aC h',aC h];rfl
  ·have h':¬name=g.kg.k:=h
   rw[if_neg h',if_neg h,Gz f name clock F];rfl
theorem AX:(fh F name=none/\fO F f name clock=F++[{f with name:=name,born:=clock}])\/∃C g D,F=C++g::D/\g.name=name/\(∀x∈C,x.name≠name)/\fh F name=some g/\fO F f name clock=C++{f with name:=name,born:=g.born}::D:=by
 induction F with
 |nil=>exact .inl ⟨rfl,rfl⟩
 |cons g F ih=>
  by_cases h:name=g.name
  ·refine .inr ⟨[],g,F,rfl,h.symm,by simp,?_,?_⟩
   ·unfold fh;rw[iZ,bB h]
   ·rw[fO,aC h];rfl
  ·have hf:fh (g::F) name=fh F name:=by unfold fh;rw[iZ,aY h]
   rcases ih with⟨h1,h2⟩|⟨C,g',D,rfl,h1,h2,h3,h4⟩
   ·refine .inl ⟨hf.trans h1,?_⟩
    rw[fO,if_neg h,h2];rfl
   ·refine .inr ⟨g::C,g',D,rfl,h1,λx hx=>?_,hf.trans h3,?_⟩
    ·rcases aU.1 hx with rfl|hx
     ·exact Ne.symm h
     ·exact h2 x hx
    ·rw[fO,if_neg h,h4];rfl
theorem Fl.Ok.later{c':Nat}(h:f.Ok c)(hc:c<=c'):f.Ok c':=⟨h.bs,h.xA,h.fB,fR h.born hc⟩
theorem FS.ins{p p':aD}{bf bm:Nat}{q:Int}{nb ns clock:Nat}{F:List Fl}{f:Fl}{name:ByteArray}(h:FS p bf bm q nb ns clock F)(hf:f.Ok clock\/(Bs f.p f.v (nc f.l)/\(∀x∈f.l,x<256)/\f.fB<=f.l.length))
  (hs:aq p (blk1 f.bx (gW f.v f.fB)::f.p::blk1 bf (jd q bm nb ns)::blk1 bm (mU F clock)::F.flatMap Fl.parts)) (hp:p'=p.set bm (nk Value.string (uu name (.v (.pointer (some ⟨f.bx,0,none⟩))) clock (F.map Fl.kg)) (kS name clock (F.map Fl.kg)))):
  FS p' bf bm q nb ns (pH F name clock) (fO F f name clock):=by
 have ZE:Bs f.p f.v (nc f.l)/\(∀x∈f.l,x<256)/\f.fB<=f.l.length:=by
  rcases hf with hf|hf
  ·exact⟨hf.bs,hf.xA,hf.fB⟩
  ·exact hf
 have ZI:kS name clock (F.map Fl.kg)=pH F name clock:=by
  unfold kS pH;rw[yI,Option.isSome_map]
 have ZH:clock<=pH F name clock:=by unfold pH;split<;>omega
 rw[Gz,ZI]at hp;have bZ:=hs.gu (i:=3) rfl (aG ..) (mU (fO F f name clock) (pH F name clock));rw[cJ]at bZ;have bZ:aq p' (blk1 f.bx (gW f.v f.fB)::f.p::blk1 bf (jd q bm nb ns)::blk1 bm (mU (fO F f name clock) (pH F name clock))::F.flatMap Fl.parts):=by rw[hp];exact bZ
 rcases AX (F:=F) (f:=f) (name:=name) (clock:=clock)with⟨h1,h2⟩|⟨C,g,D,h0,h1,h2,h3,h4⟩
 ·have hc:pH F name clock=clock+1:=by unfold pH;rw[h1];rfl
  have xr:∀x∈F,x.name≠name:=λx hx e=>by
   have:=kT.1 h1 x hx
   grind
  rw[h2]at bZ⊢;rw[hc]at bZ⊢;refine⟨?_,λx hx=>?_,?_,?_⟩
  ·have:=uX F [] {f with name:=name,born:=clock} (blk1 bf (jd q bm nb ns)) (blk1 bm (mU (F++[{f with name:=name,born:=clock}]) (clock+1)))
   rw[cO]at this;exact bZ.fm this.symm
  ·rcases aR.1 hx with hx|hx
   ·exact(h.ok x hx).later (by omega)
   ·rw[aL.1 hx];exact⟨ZE.1,ZE.2.1,ZE.2.2,Nat.lt_succ_self _⟩
  ·refine cm.2 ⟨h.Ex,by simp,λa ha b hb=>?_⟩
   grind
  ·refine cm.2 ⟨h.CE,by simp,λa ha b hb=>?_⟩
   rw[aL.1 hb];have:=(h.ok a ha).born
   grind
 ·subst h0
  have hc:pH (C++g::D) name clock=clock:=by unfold pH;rw[h3];rfl
  rw[h4]at bZ⊢;rw[hc]at bZ⊢;refine⟨?_,λx hx=>?_,?_,?_⟩
  ·
   have h5:aq p' (blk1 f.bx (gW f.v f.fB)::f.p::blk1 bf (jd q bm nb ns)::blk1 bm (mU (C++{f with name:=name,born:=g.born}::D) clock)::(C++D).flatMap Fl.parts):=by
    have h6:=bZ.fm (List.Perm.cons _ (List.Perm.cons _ (uX C D g _ _)));exact(h6.dV 2).dV 2
   exact h5.fm (uX C D {f with name:=name,born:=g.born} _ _).symm
  ·rcases aR.1 hx with hx|hx
   ·exact h.ok x (by simp[hx])
   ·rcases aU.1 hx with rfl|hx
    ·exact⟨ZE.1,ZE.2.1,ZE.2.2,(h.ok g (by simp)).born⟩
    ·exact h.ok x (by simp[hx])
  ·have e:(C++{f with name:=name,born:=g.born}::D).map (·.name)=(C++g::D).map (·.name):=by simp[h1]
   have h6:=cG.2 h.Ex
   grind
  ·have e:(C++{f with name:=name,born:=g.born}::D).map (·.born)=(C++g::D).map (·.born):=by simp
   have h6:=cG.2 h.CE
   grind
def abY(F:List Fl)(a b:ByteArray):Int:=match fh F a with
 |none=>4
 |some _=>if iQ (jR b)then 0 else 1
def abW(F:List Fl)(a b:ByteArray)(clock:Nat):List Fl:=match fh F a with
 |none=>F
 |some f=>if iQ (jR b)then fO (rmF F a) f b clock else F
def akr(F:List Fl)(a b:ByteArray)(clock:Nat):Nat:=match fh F a with
 |none=>clock
 |some _=>if iQ (jR b)then pH (rmF F a) b clock else clock
theorem PR{a b:ByteArray}(h:FS m bf bm q nb ns clock F)(hb:b.size<=1000000):
  bi tP 253 [fy bf,.v (.string a),.v (.string b)] m λr m'=>r=[i64 (abY F a b)]/\FS m' bf bm q nb ns (akr F a b clock) (abW F a b clock):=by
 have hf:=rP (name:=a) h
 have eE:abY F a b=match fh F a with
  |none=>4
  |some _=>if iQ (jR b)then 0 else 1:=rfl
 have eF:abW F a b clock=match fh F a with
  |none=>F
  |some f=>if iQ (jR b)then fO (rmF F a) f b clock else F:=rfl
 have eC:akr F a b clock=match fh F a with
  |none=>clock
  |some _=>if iQ (jR b)then pH (rmF F a) b clock else clock:=rfl
 generalize abY F a b=xe at eE⊢;generalize abW F a b clock=xf at eF⊢;generalize akr F a b clock=xc at eC⊢;refine ub Tryz.func253 ?_
 cases e:fh F a with
 |none=>
  rw[e]at hf eE eF eC;simp only at eE eF eC;subst eE eF eC;refine bt (hf) ?_;refine xY ?_;exact⟨rfl,h⟩
 |some f=>
  rw[e]at hf eE eF eC;simp only at eE eF eC;refine bt (hf) ?_;refine xN ?_;refine bt (yw hb) ?_
  cases hn:iQ (jR b)with
  |false=>
   rw[hn]at eE eF eC;simp only[cU,gS]at eE eF eC;subst eE eF eC;refine xY ?_;exact⟨rfl,h⟩
  |true=>
   rw[hn]at eE eF eC;simp only[oN]at eE eF eC;obtain⟨A,B,rfl,_,rfl⟩:=oA e;obtain⟨hA,hB⟩:=h.Qn;have ez:=h.ok f (by simp);rw[KN hA hB]at eF eC;refine xN ?_;refine⟨.map (some bm),aF h.sN rfl,rfl,?_⟩;refine .mk _ (WL h.map) ?_;rintro _ _⟨rfl,rfl⟩;conv=>whnf
   rw[IA hA];obtain⟨h1,h2⟩:=h.del rfl;refine⟨.map (some bm),aF h1.sN rfl,rfl,?_⟩;refine .mk _ (Nt (v:=fy f.bx) h1.map) ?_;rintro _ m' rfl;subst eE eF eC;exact⟨rfl,h1.ins (.inl ez) h2 rfl⟩
theorem aq.fb{q:aD}{l:List aD}(h:aq m (q::l)):aq m [gY l,q]/\aq (gY l) l:=by
 obtain⟨h1,h2⟩:=h;obtain⟨h3,h4⟩:=bh.1 h2;refine⟨⟨λx o hx=>?_,?_⟩,cL.refl _,h4⟩
 ·obtain⟨a,ha,Be⟩:=eQ hx
  simp only[aU,fG,rH]at ha;rcases ha with rfl|rfl
  ·obtain⟨b,hb,hx3⟩:=eQ Be
   exact h1 _ _ (jE h2 (bO _ hb) hx3)
  ·exact h1 _ _ (jE h2 (dv ..) Be)
 ·simp only[bh,aL,forall_eq,fG,false_implies,implies_true,List.Pairwise.nil,and_true]
  intro x
  cases hq:q x with
  |none=>exact .inr rfl
  |some o=>
   refine .inl (pM.2 λa ha=>?_);rcases h3 a ha x with h'|h'
   ·rw[hq]at h';cases h'
   ·exact h'
theorem aq.x7{mm:aD}{l:List aD}(h:aq mm (p::l)):∃q,(∀x∈l,cL x q)/\aq mm [p,q]/\∀m' p',aq m' [p',q]->aq m' (p'::l):=by
 obtain⟨h2,h3⟩:=aq.fb h;exact⟨gY l,λx hx=>h3.sub hx,h2.fm (List.Perm.swap _ _ _),λm' p' h4=>aq.under (a:=[p']) h4 h3⟩
theorem FS.grow(h:FS p bf bm q nb ns clock F)(hs:cL p m):FS m bf bm q nb ns clock F:=⟨h.sp.grow hs,h.ok,h.Ex,h.CE⟩
structure Af where
 name:ByteArray
 l:List Nat
 fB:Nat
def Fl.af(f:Fl):Af:=⟨f.name,f.l,f.fB⟩
abbrev kD(F:List Fl):List Af:=F.map Fl.af
def kL:List Af->ByteArray->List Nat->List Af
 |[],name,b=>[⟨name,b,0⟩]
 |x::A,name,b=>if name=x.name then {x with l:=x.l++b}::A else x::kL A name b
theorem IS{g:Fl}{b:List Nat}(hA:∀x∈A,x.name≠f.name)(h1:g.name=f.name)(h2:g.l=f.l++b)(h3:g.fB=f.fB):kD (A++g::B)=kL (kD (A++f::B)) f.name b:=by
 induction A with
 |nil=>simp only[bV,aZ,kL,Fl.af];rw[aC trivial,h1,h2,h3]
 |cons x A ih=>
  have hx:=hA x (by simp);have ih:=ih λy hy=>hA y (by simp[hy]);simp only[kD,db,aZ,kL]at ih⊢;rw[if_neg (λe=>hx (by simpa [Fl.af]using e.symm)),ih]
theorem SL{b:List Nat}(h:∀x∈F,x.name≠name)(h1:f.name=name)(h2:f.l=b)(h3:f.fB=0):kD (F++[f])=kL (kD F) name b:=by
 induction F with
 |nil=>simp[kL,Fl.af,h1,h2,h3]
 |cons x A ih=>
  have hx:=h x (by simp);have ih:=ih λy hy=>h y (by simp[hy]);simp only[kD,db,aZ,kL]at ih⊢;rw[if_neg (λe=>hx (by simpa [Fl.af]using e.symm)),ih]
theorem SJ{m mm p0:aD}{bf bm:Nat}{q:Int}{nb ns clock:Nat}{A B:List Fl}{f:Fl}{vb:Value}{lb:List Nat}{R:List CV->aD->Prop}(h:FS p0 bf bm q nb ns clock (A++f::B))(hs:aq mm [p0,m])(hb:La m vb (nc lb))(xt:∀x∈lb,x<256)(hl:f.l.length+lb.length<=100000000)(hnb:nb<=1000000000000000000)
  (hR:∀p' m' g,g.name=f.name->g.l=f.l++lb->g.fB=f.fB->aq m' [p',m]->FS p' bf bm q (nb+lb.length) ns clock (A++g::B)->R [i64 0] m'):
  Tl aik (AU 11 (yX Tryz.f192)) (Mm tt.get Tryz.f192.results.toList R)
   [(0,.c (fy bf)),(2,.c (.v vb)),(7,.c (fy f.bx))] [] mm []:=by
 obtain⟨ab,cb,rfl⟩:=hb.shape;rw[mH]at hb⊢;have ez:=h.ok f (by simp);have bM:aq mm (m::blk1 f.bx (gW f.v f.fB)::f.p::blk1 bf (jd q bm nb ns)::blk1 bm (mU (A++f::B) clock)::(A++B).flatMap Fl.parts):=(hs.fm (List.Perm.swap _ _ _)).under (a:=[m]) h.pick;have hm:mm f.bx=some (gW f.v f.fB):=bM.sub (a:=blk1 f.bx (gW f.v f.fB)) (by simp) _ _ (aG ..);have ox:=ez.bs.lb.one;refine .at ?_;refine⟨f.v,aF hm rfl,ox,?_⟩;refine .mk _ (nQ (i:=2) bM rfl ez.bs (hb.sub (bM.sub)) (by simp;omega)) ?_;rintro _ m2⟨v2,p2,rfl,bZ,lD⟩;have bZ:aq m2 (m::blk1 f.bx (gW f.v f.fB)::p2::blk1 bf (jd q bm nb ns)::blk1 bm (mU (A++f::B) clock)::(A++B).flatMap Fl.parts):=bZ;have vD:m2 f.bx=some (gW f.v f.fB):=bZ.sub (a:=blk1 f.bx (gW f.v f.fB)) (by simp) _ _ (aG ..);refine⟨_,_,_,vD,⟨Nat.zero_lt_succ _,by simp⟩,?_⟩;have dy:=bZ.gu (i:=1) rfl (aG ..) (gW v2 f.fB);rw[cJ]at dy;have dy:aq (m2.set f.bx (gW v2 f.fB)) (m::blk1 f.bx (gW v2 f.fB)::p2::blk1 bf (jd q bm nb ns)::blk1 bm (mU (A++f::B) clock)::(A++B).flatMap Fl.parts):=dy;have Ah:(m2.set f.bx (gW v2 f.fB)) bf=some (jd q bm nb ns):=dy.sub (a:=blk1 bf (jd q bm nb ns)) (by simp) _ _ (aG ..);have ew:IntKind.u64.wrap (lb.length:Int)=(lb.length:Int):=wu;conv=>whnf
 rw[ew];refine aP (XK (x:=nb) (y:=lb.length) Ah rfl (by omega)) ?_;rintro _ m4⟨rfl,rfl⟩;have eP:=dy.gu (i:=3) rfl (aG ..) (jd q bm (nb+lb.length) ns);rw[cJ]at eP;obtain⟨h5,h6⟩:=aq.fb eP;refine hR _ _ {f with v:=v2,l:=f.l++lb,p:=p2} rfl rfl rfl h5 ?_;refine h.put (g:={f with v:=v2,l:=f.l++lb,p:=p2}) rfl rfl rfl ⟨?_,λx hx=>?_,?_,ez.born⟩ h6
 ·have:=lD.ux
  rw[show nc f.l++nc lb=nc (f.l++lb) by simp[nc]]at this;exact this
 ·rcases aR.1 hx with hx|hx
  ·exact ez.xA x hx
  ·exact xt x hx
 ·have:=ez.fB
  simp only[ax];omega
def iP(A:List Af):Nat:=(A.map (·.l.length)).sum
theorem xJ(F:List Fl):iP (kD F)=qU F:=by simp[iP,qU,kD,Fl.af,Function.comp_def]
def I1(A:List Af)(name:ByteArray)(lb:List Nat)(q e:Int)(A':List Af)(nb oK:Nat):Prop:=
 if iQ (jR name)=false then e=1/\A'=A/\oK=nb else if 0<q/\q<(iP A+lb.length:Nat)then e=5/\A'=A/\oK=nb else e=0/\A'=kL A name lb/\oK=nb+lb.length
theorem ajk{mx my:aD}{ob:Obj}{l:List Nat}(h:m b=some ob)(hx:cL m mx)(hy:cL m my)(hl:∀x∈l,x=b):y3 l mx my:=λx xq=>by
 rw[hl x xq,hx _ _ h,hy _ _ h]
theorem OH{m mm p:aD}{bf bm:Nat}{q:Int}{nb ns clock:Nat}{F:List Fl}{name:ByteArray}{vb:Value}{lb:List Nat}(h:FS p bf bm q nb ns clock F)(hs:aq mm [p,m])(hv:La m vb (nc lb))(xt:∀x∈lb,x<256)(hn:name.size<=1000000)(hq:0<=q/\q<=9223372036854775807)
  (hl:∀f∈F,f.l.length<=90000000) (hlb:lb.length<=10000000) (ak1:qU F<=1000000000000) (hnb:nb<=1000000000000000000):
  bi tP 192 [fy bf,.v (.string name),.v vb] mm λr m'=>∃e p' F' IG oK,r=[i64 e]/\aq m' [p',m]/\FS p' bf bm q oK ns IG F'/\I1 (kD F) name lb q e (kD F') nb oK:=by
 have hM:=h.grow (hs.sub);have hf:=rP (name:=name) hM;obtain⟨ab,cb,rfl⟩:=hv.shape;rw[mH]at hv⊢
 have Wk:∀mm p clock A f B,FS p bf bm q nb ns clock (A++f::B)->aq mm [p,m]->(∀x∈A,x.name≠f.name)->f.l.length<=90000000->iQ (jR name)=true->¬(0<q/\q<(iP (kD F)+lb.length:Nat))->(∀g:Fl,g.name=f.name->g.l=f.l++lb->g.fB=f.fB->kD (A++g::B)=kL (kD F) name lb)->
   Tl aik (AU 11 (yX Tryz.f192)) (Mm tt.get Tryz.f192.results.toList λr m'=>∃e p' F' IG oK,r=[i64 e]/\aq m' [p',m]/\FS p' bf bm q oK ns IG F'/\I1 (kD F) name lb q e (kD F') nb oK)
   [(0,.c (fy bf)),(2,.c (.v (.slice ab lb.length cb))),(7,.c (fy f.bx))] [] mm []:=by
  intro mm p clock A f B h1 h2 hA h3 h4 h5 h6;refine SJ h1 h2 hv xt (by omega) hnb λp' m' g e1 e2 e3 h7 h8=>⟨0,p',A++g::B,clock,nb+lb.length,rfl,h7,h8,?_⟩;rw[I1,if_neg (by rw[h4];decide),if_neg h5];exact⟨rfl,h6 g e1 e2 e3,rfl⟩
 refine A4 aik Tryz.func192 ?_
 cases e:fh F name with
 |none=>
  rw[e]at hf
  have xr:∀x∈F,x.name≠name:=λx hx e'=>by
   have:=kT.1 e x hx;simp[e']at this
  refine bt (hf) ?_;refine xN ?_;refine bt (yw hn) ?_
  cases Tb:iQ (jR name)with
  |false=>
   refine xY ?_;exact⟨1,p,F,clock,nb,rfl,hs,h,by rw[I1,aC Tb];exact⟨rfl,rfl,rfl⟩⟩
  |true=>
   refine xN ?_;refine⟨.int .i64 q,aF hM.sN rfl,rfl,?_⟩;apply bI<;>intro h1
   ·have mQ:=ah h1
    have ew:IntKind.i64.wrap (q-(lb.length:Int))=q-(lb.length:Int):=wi;refine⟨.int .i64 q,aF hM.sN rfl,rfl,?_⟩;conv=>whnf
    rw[ew];refine aP (KA hM ak1) ?_;rintro _ m1⟨rfl,hsu⟩;conv=>whnf
    first|(refine⟨ajk hM.sN (cL.refl _) hsu (by simp),?_⟩;conv=>whnf)|skip
    have bM:=hs.grow hsu;apply bI<;>intro h2
    ·have iD:=ah h2
     exact⟨5,p,_,clock,nb,rfl,bM,h,by rw[I1,if_neg (by rw[Tb];decide),aC ⟨mQ,by rw[xJ];omega⟩];exact⟨rfl,rfl,rfl⟩⟩
    ·have iD:=aj h2
     have jH:¬(0<q/\q<(iP (kD F)+lb.length:Nat)):=λhx=>by have:=hx.2;rw[xJ]at this;omega
     refine xY ?_;intro b hb;have hpb:p b=none:=bM.none hb p (by simp);have bZ:=(bM.new hb (gW (.slice none 0 0) 0)).jo;have hP:=((((aq.one p).new hpb (gW (.slice none 0 0) 0)).under (a:=[blk1 b (gW (.slice none 0 0) 0)]) h.sp).cA).fm (List.Perm.swap _ _ _);rw[<-pB]at hP;have F2:FS (ig (blk1 b (gW (.slice none 0 0) 0)) p) bf bm q nb ns clock F:=h.grow (by rw[pB];exact aD.bT _ hpb);have hM2:=F2.grow (bZ.sub);refine⟨.map (some bm),aF hM2.sN rfl,rfl,?_⟩;refine .mk _ (Nt (v:=fy b) hM2.map) ?_;rintro _ m' rfl;have dy:=bZ.set F2.map (nk Value.string (uu name (fy b) clock (F.map Fl.kg)) (kS name clock (F.map Fl.kg)));have lE:=F2.ins (f:=⟨name,b,.slice none 0 0,[],0,clock,iI⟩) (name:=name) (.inr ⟨Bs.nil _,by simp,aW _⟩) hP rfl
     have hpf:fO F ⟨name,b,.slice none 0 0,[],0,clock,iI⟩ name clock=F++[⟨name,b,.slice none 0 0,[],0,clock,iI⟩]:=by
      rcases AX (F:=F) (f:=⟨name,b,.slice none 0 0,[],0,clock,iI⟩) (name:=name) (clock:=clock)with⟨_,h2⟩|⟨C,g,D,h0,_,_,h3,_⟩
      ·exact h2
      ·rw[e]at h3;cases h3
     rw[hpf]at lE;have tl:=Wk _ _ _ _ _ [] lE dy xr (by simp) Tb jH (λg e1 e2 e3=>SL xr e1 (by rw[e2];rfl) e3)
     conv at tl=>whnf
     refine .via _ _ ?_ tl;exact Cr
   ·have mQ:=aj h1
    have jH:¬(0<q/\q<(iP (kD F)+lb.length:Nat)):=λhx=>mQ hx.1;have bM:=hs;refine xY ?_;intro b hb;have hpb:p b=none:=bM.none hb p (by simp);have bZ:=(bM.new hb (gW (.slice none 0 0) 0)).jo;have hP:=((((aq.one p).new hpb (gW (.slice none 0 0) 0)).under (a:=[blk1 b (gW (.slice none 0 0) 0)]) h.sp).cA).fm (List.Perm.swap _ _ _);rw[<-pB]at hP;have F2:FS (ig (blk1 b (gW (.slice none 0 0) 0)) p) bf bm q nb ns clock F:=h.grow (by rw[pB];exact aD.bT _ hpb);have hM2:=F2.grow (bZ.sub);refine⟨.map (some bm),aF hM2.sN rfl,rfl,?_⟩;refine .mk _ (Nt (v:=fy b) hM2.map) ?_;rintro _ m' rfl;have dy:=bZ.set F2.map (nk Value.string (uu name (fy b) clock (F.map Fl.kg)) (kS name clock (F.map Fl.kg)));have lE:=F2.ins (f:=⟨name,b,.slice none 0 0,[],0,clock,iI⟩) (name:=name) (.inr ⟨Bs.nil _,by simp,aW _⟩) hP rfl
    have hpf:fO F ⟨name,b,.slice none 0 0,[],0,clock,iI⟩ name clock=F++[⟨name,b,.slice none 0 0,[],0,clock,iI⟩]:=by
     rcases AX (F:=F) (f:=⟨name,b,.slice none 0 0,[],0,clock,iI⟩) (name:=name) (clock:=clock)with⟨_,h2⟩|⟨C,g,D,h0,_,_,h3,_⟩
     ·exact h2
     ·rw[e]at h3;cases h3
    rw[hpf]at lE;have tl:=Wk _ _ _ _ _ [] lE dy xr (by simp) Tb jH (λg e1 e2 e3=>SL xr e1 (by rw[e2];rfl) e3)
    conv at tl=>whnf
    refine .via _ _ ?_ tl;exact Cr
 |some f=>
  rw[e]at hf;obtain⟨A,B,rfl,hA,rfl⟩:=oA e;have hlf:=hl f (by simp);refine bt (hf) ?_;refine xN ?_;refine bt (yw hn) ?_
  cases Tb:iQ (jR f.name)with
  |false=>
   refine xY ?_;exact⟨1,p,_,clock,nb,rfl,hs,h,by rw[I1,aC Tb];exact⟨rfl,rfl,rfl⟩⟩
  |true=>
   refine xN ?_;refine⟨.int .i64 q,aF hM.sN rfl,rfl,?_⟩;apply bI<;>intro h1
   ·have mQ:=ah h1
    have ew:IntKind.i64.wrap (q-(lb.length:Int))=q-(lb.length:Int):=wi;refine⟨.int .i64 q,aF hM.sN rfl,rfl,?_⟩;conv=>whnf
    rw[ew];refine aP (KA hM ak1) ?_;rintro _ m1⟨rfl,hsu⟩;conv=>whnf
    first|(refine⟨ajk hM.sN (cL.refl _) hsu (by simp),?_⟩;conv=>whnf)|skip
    have bM:=hs.grow hsu;apply bI<;>intro h2
    ·have iD:=ah h2
     exact⟨5,p,_,clock,nb,rfl,bM,h,by rw[I1,if_neg (by rw[Tb];decide),aC ⟨mQ,by rw[xJ];omega⟩];exact⟨rfl,rfl,rfl⟩⟩
    ·have iD:=aj h2
     have jH:¬(0<q/\q<(iP (kD (A++f::B))+lb.length:Nat)):=λhx=>by have:=hx.2;rw[xJ]at this;omega
     refine xN ?_;have tl:=Wk _ _ _ _ _ _ h bM hA hlf Tb jH (λg e1 e2 e3=>IS hA e1 e2 e3)
     conv at tl=>whnf
     refine .via _ _ ?_ tl;exact Cr
   ·have mQ:=aj h1
    have jH:¬(0<q/\q<(iP (kD (A++f::B))+lb.length:Nat)):=λhx=>mQ hx.1;have bM:=hs;refine xN ?_;have tl:=Wk _ _ _ _ _ _ h bM hA hlf Tb jH (λg e1 e2 e3=>IS hA e1 e2 e3)
    conv at tl=>whnf
    refine .via _ _ ?_ tl;exact Cr
theorem aay(F:List Fl):(kD F).map (·.name)=F.map (·.name):=by simp[kD,Fl.af]
theorem zf(ss:List ByteArray):(ut ss).Perm ss:=by
 have h1:((ss.map tq).mergeSort λx y=>decide (x<=y)).Perm (ss.map tq):=qR _ _;have h2:=h1.map λl:List UInt8=>(⟨l.toArray⟩:ByteArray);rw[fS]at h2
 have e:ss.map ((λl:List UInt8=>(⟨l.toArray⟩:ByteArray))∘tq)=ss:=by
  refine(eu λs _=>?_).trans (lL ss)
  cases s;simp[tq]
 rw[e]at h2;exact h2
def bS(A:List Af)(name:ByteArray):Option Af:=A.find? λa=>decide (name=a.name)
theorem zz(F:List Fl)(name:ByteArray):bS (kD F) name=(fh F name).map Fl.af:=by
 unfold bS fh kD;rw[List.find?_map];rfl
def jU(A:List Af)(name:ByteArray):List Af:=A.map λa=>if a.name=name then {a with fB:=a.l.length}else a
def xy(A:List Af)(name:ByteArray)(n:Nat):List Af:=A.map λa=>if a.name=name then⟨a.name,a.l.take n,min a.fB n⟩else a
def r9(A:List Af)(name:ByteArray):List Af:=A.filter λa=>!decide (a.name=name)
def mS(x:Af)(name:ByteArray):List Af->List Af
 |[]=>[{x with name:=name}]
 |a::A=>if name=a.name then {x with name:=name}::A else a::mS x name A
def E7(A:List Af)(a b:ByteArray):List Af:=match bS A a with
 |none=>A
 |some x=>if iQ (jR b)then mS x b (r9 A a)else A
def abX(A:List Af)(a b:ByteArray):Int:=match bS A a with
 |none=>4
 |some _=>if iQ (jR b)then 0 else 1
def ajQ(A:List Af)(name:ByteArray)(n:Int):Int:=match bS A name with
 |none=>4
 |some a=>if 0<=n/\n<=a.l.length then 0 else 1
def Xw(A:List Af)(name:ByteArray)(n:Int):List Af:=match bS A name with
 |none=>A
 |some a=>if 0<=n/\n<=a.l.length then xy A name n.toNat else A
def Ik(A:List Af)(name:ByteArray):Int:=if (bS A name).isSome then 0 else 4
theorem wl(F:List Fl)(name:ByteArray):(fh F name).isSome=(bS (kD F) name).isSome:=by rw[zz,Option.isSome_map]
theorem abv(F:List Fl)(name:ByteArray):kD (Pp F name)=jU (kD F) name:=by
 simp only[kD,Pp,Ls,jU,fS];refine eu λf _=>?_;simp only[Function.comp,Fl.af]
 grind
theorem aig(F:List Fl)(name:ByteArray)(n:Nat)(v:Value):kD (aaf F name n v)=xy (kD F) name n:=by
 simp only[kD,aaf,Ls,xy,fS];refine eu λf _=>?_;simp only[Function.comp,Fl.af]
 grind
theorem abS(F:List Fl)(name:ByteArray):kD (rmF F name)=r9 (kD F) name:=by
 unfold kD rmF r9;rw[List.filter_map];rfl
theorem Ww(f:Fl)(name:ByteArray)(clock:Nat):∀F:List Fl,kD (fO F f name clock)=mS f.af name (kD F)
 |[]=>rfl
 |g::F=>by
  have ih:=Ww f name clock F;simp only[kD,fO,aZ,mS]at ih⊢;by_cases h:name=g.name
  ·rw[aC h,aC (show name=g.af.name from h)];rfl
  ·rw[if_neg h,if_neg (show ¬name=g.af.name from h),aZ,ih]
theorem agl(F:List Fl)(a b:ByteArray)(clock:Nat):kD (abW F a b clock)=E7 (kD F) a b/\abY F a b=abX (kD F) a b:=by
 unfold abW E7 abY abX;rw[zz]
 cases fh F a with
 |none=>exact rR
 |some f=>
  simp only[dZ];split
  ·exact⟨by rw[Ww,abS],by trivial⟩
  ·exact⟨rfl,by trivial⟩
def FA(p:aD)(bf:Nat)(q:Int)(nb ns:Nat)(A:List Af):Prop:=∃bm clock F,FS p bf bm q nb ns clock F/\kD F=A
structure Sm(k:Nat)(A:List Af)(nb ns:Nat):Prop where
 l:∀a∈A,a.l.length<=10000*k
 n:A.length<=k
 nb:nb<=1000000000*k
 ns:ns<=k
 k:k<=1000
variable{A:List Af}
theorem af2(h:∀a∈A,a.l.length<=b):iP A<=b*A.length:=by
 induction A with
 |nil=>simp[iP]
 |cons a A ih=>
  have h1:=h a (by simp);have ih:=ih λx hx=>h x (by simp[hx]);simp only[iP,aZ,List.sum_cons,bd,Nat.mul_succ]at ih⊢;omega
theorem Sm.tot{k:Nat}(h:Sm k A nb ns):iP A<=10000000000:=by
 have h1:=af2 h.l;have h2:10000*k*A.length<=10000*1000*1000:=Nat.mul_le_mul (iV _ h.k) (bq h.n h.k);omega
section
variable {m mm p:aD}{bf:Nat}{q:Int}{nb ns k:Nat}{A:List Af}{name:ByteArray}
theorem FA.grow{m:aD}(h:FA p bf q nb ns A)(hs:cL p m):FA m bf q nb ns A:=by
 obtain⟨bm,clock,F,h1,h2⟩:=h;exact⟨bm,clock,F,h1.grow hs,h2⟩
theorem abe{F:List Fl}{P:Af->Prop}(h:∀a∈kD F,P a):∀f∈F,P f.af:=λf hf=>h f.af (aV.2 ⟨f,hf,rfl⟩)
theorem WH(h:FA m bf q nb ns A)(hk:Sm k A nb ns):bi tP 58 [fy bf] m λr m'=>∃v p,r=[.v v]/\aq m' [p,m]/\So p v (ut (A.map (·.name))):=by
 obtain⟨bm,clock,F,h1,rfl⟩:=h;have:=hk.n;have:=hk.k;rw[aay];exact UA h1 (by rw[aH]at*;omega)
theorem MW(h:FA m bf q nb ns A)(hk:Sm k A nb ns):bi tP 190 [fy bf,.v (.string name)] m λr m'=>∃v p,r=[.v v,i64 (Ik A name)]/\aq m' [p,m]/\Bs p v (nc (((bS A name).map (·.l)).getD [])):=by
 obtain⟨bm,clock,F,h1,rfl⟩:=h;have h2:=abe hk.l;have:=hk.k;refine(T8 (name:=name) h1 λf hf=>by have:=h2 f hf;simp only[Fl.af]at this;omega).mono λr m' ⟨v,p,e1,e2,e3⟩=>⟨v,p,by rw[e1,Ik,wl],e2,?_⟩;rw[zz,Option.map_map];exact e3
theorem abw(h:FA p bf q nb ns A)(hk:Sm k A nb ns):bi tP 245 [fy bf,.v (.string name)] p λr m'=>r=[i64 (Ik A name)]/\FA m' bf q nb (if (bS A name).isSome then ns+1 else ns) (jU A name):=by
 obtain⟨bm,clock,F,h1,rfl⟩:=h;have h3:=hk.ns;have h4:=hk.k;refine(Yo (name:=name) h1 (by omega)).mono λr m' ⟨e1,e2⟩=>⟨by rw[e1,Ik,wl],?_⟩;rw[wl]at e2;exact⟨bm,clock,_,e2,abv _ _⟩
theorem xW(h:FA p bf q nb ns A):bi tP 193 [fy bf,.v (.string name)] p λr m'=>r=[i64 (Ik A name)]/\FA m' bf q nb ns (r9 A name):=by
 obtain⟨bm,clock,F,h1,rfl⟩:=h;exact(PS (name:=name) h1).mono λr m' ⟨e1,e2⟩=>⟨by rw[e1,Ik,wl],bm,clock,_,e2,abS _ _⟩
theorem abV{b:ByteArray}(h:FA p bf q nb ns A)(hb:b.size<=1000000):bi tP 253 [fy bf,.v (.string name),.v (.string b)] p λr m'=>r=[i64 (abX A name b)]/\FA m' bf q nb ns (E7 A name b):=by
 obtain⟨bm,clock,F,h1,rfl⟩:=h;obtain⟨r1,r2⟩:=agl F name b clock;exact(PR (a:=name) h1 hb).mono λr m' ⟨e1,e2⟩=>⟨by rw[e1,r2],bm,_,_,e2,r1⟩
theorem aq9{n:Int}(h:FA p bf q nb ns A)(hk:Sm k A nb ns):bi tP 194 [fy bf,.v (.string name),i64 n] p λr m'=>r=[i64 (ajQ A name n)]/\FA m' bf q nb ns (Xw A name n):=by
 obtain⟨bm,clock,F,h1,rfl⟩:=h;have h2:=abe hk.l;have:=hk.k;refine(aeD (name:=name) (n:=n) h1 λf hf=>by have:=h2 f hf;simp only[Fl.af]at this;omega).mono λr m' ⟨e,F',e1,e2,e3⟩=>?_;unfold Wb at e3;unfold ajQ Xw;rw[zz]
 cases hf:fh F name with
 |none=>
  rw[hf]at e3;obtain⟨rfl,rfl⟩:=e3;exact⟨e1,bm,clock,_,e2,rfl⟩
 |some f=>
  rw[hf]at e3;simp only[dZ,Fl.af]at e3⊢;by_cases hc:0<=n/\n<=f.l.length
  ·rw[aC hc]at e3
   rw[aC hc,aC hc];obtain⟨rfl,v,rfl⟩:=e3;exact⟨e1,bm,clock,_,e2,aig _ _ _ _⟩
  ·rw[if_neg hc]at e3
   rw[if_neg hc,if_neg hc];obtain⟨rfl,rfl⟩:=e3;exact⟨e1,bm,clock,_,e2,rfl⟩
theorem IR{vb:Value}{lb:List Nat}(h:FA p bf q nb ns A)(hs:aq mm [p,m])(hk:Sm k A nb ns)(hv:La m vb (nc lb))(xt:∀x∈lb,x<256)(hn:name.size<=1000000)(hq:0<=q/\q<=9223372036854775807)(hlb:lb.length<=10000000):
  bi tP 192 [fy bf,.v (.string name),.v vb] mm λr m'=>∃e p' A' oK,r=[i64 e]/\aq m' [p',m]/\FA p' bf q oK ns A'/\I1 A name lb q e A' nb oK:=by
 obtain⟨bm,clock,F,h1,rfl⟩:=h;have h2:=abe hk.l;have h3:=hk.k;have h4:=hk.nb;have ht:=hk.tot;rw[xJ]at ht;exact(OH (name:=name) h1 hs hv xt hn hq (λf hf=>by have:=h2 f hf;simp only[Fl.af]at this;omega) (by omega) (by omega) (by omega)).mono λr m' ⟨e,p',F',IG,oK,e1,e2,e3,e4⟩=>⟨e,p',_,oK,e1,e2,⟨bm,IG,F',e3,rfl⟩,e4⟩
end
structure Les(A' A:List Af):Prop where
 l:∀b:Nat,(∀a∈A,a.l.length<=b)->∀a∈A',a.l.length<=b
 n:A'.length<=A.length+1
 t:iP A'<=iP A
theorem Les.refl(A:List Af):Les A A:=⟨λ_ h=>h,by omega,aW _⟩
theorem WJ{g:Af->Af}(hg:∀a,(g a).l.length<=a.l.length):∀A:List Af,iP (A.map g)<=iP A
 |[]=>aW _
 |a::A=>by
  have h1:=WJ hg A;have h2:=hg a;simp only[iP,aZ,List.sum_cons]at h1⊢;omega
theorem WK{g:Af->Af}(hg:∀a,(g a).l.length<=a.l.length)(A:List Af):Les (A.map g) A:=
 ⟨λb h a ha=>by obtain⟨x,hx,rfl⟩:=aV.1 ha;exact bq (hg x) (h x hx),by rw[aH];omega,WJ hg A⟩
theorem uO(A:List Af)(name:ByteArray):Les (jU A name) A:=WK (λa=>by split<;>exact aW _) A
theorem IE(A:List Af)(name:ByteArray)(n:Nat):Les (xy A name n) A:=WK (λa=>by split<;>first|exact aW _|(simp only[aK];omega)) A
theorem abQ(A:List Af)(name:ByteArray):iP (r9 A name)<=iP A/\∀x,bS A name=some x->iP (r9 A name)+x.l.length<=iP A:=by
 induction A with
 |nil=>exact⟨aW _,λx h=>by cases h⟩
 |cons a A ih=>
  obtain⟨h1,h2⟩:=ih;simp only[r9,bS,iP]at h1 h2⊢;rw[mO,iZ];by_cases h:a.name=name
  ·rw[if_neg (by simp[h])]
   simp only[aZ,List.sum_cons];refine⟨by omega,λx hx=>?_⟩;rw[bB h.symm]at hx;cases hx;omega
  ·rw[aC (by simp[h])]
   simp only[aZ,List.sum_cons];refine⟨by omega,λx hx=>?_⟩;rw[aY (λe=>h e.symm)]at hx;have:=h2 x hx;omega
theorem abR(A:List Af)(name:ByteArray):Les (r9 A name) A:=⟨λb h a ha=>h a (cH.1 ha).1,bq (bC _ _) (by omega),(abQ A name).1⟩
theorem ago(x:Af)(name:ByteArray)(A:List Af):(∀b:Nat,x.l.length<=b->(∀a∈A,a.l.length<=b)->∀a∈mS x name A,a.l.length<=b)/\(mS x name A).length<=A.length+1/\iP (mS x name A)<=iP A+x.l.length:=by
 induction A with
 |nil=>exact⟨λb h _ a ha=>by rw[aL.1 ha];exact h,by simp[mS],by simp[mS,iP]⟩
 |cons y A ih=>
  obtain⟨h1,h2,h3⟩:=ih;rw[mS];split
  ·refine⟨λb h hA a ha=>?_,by simp,by simp only[iP,aZ,List.sum_cons];omega⟩
   rcases aU.1 ha with rfl|ha
   ·exact h
   ·exact hA a (bO _ ha)
  ·refine⟨λb h hA a ha=>?_,by simp only[bd];omega,by simp only[iP,aZ,List.sum_cons]at h3⊢;omega⟩
   rcases aU.1 ha with rfl|ha
   ·exact hA a (dv ..)
   ·exact h1 b h (λa ha=>hA a (bO _ ha)) a ha
theorem MT(A:List Af)(a b:ByteArray):Les (E7 A a b) A:=by
 unfold E7
 cases h:bS A a with
 |none=>exact .refl A
 |some x=>
  simp only;split
  ·obtain⟨h1,h2,h3⟩:=ago x b (r9 A a)
   have hr:=abR A a;have hx:x∈A:=jn h;have ht:=(abQ A a).2 x h;have hn:(r9 A a).length<=A.length:=bC _ _;exact⟨λc hc=>h1 c (hc x hx) (hr.l c hc),by omega,by omega⟩
  ·exact .refl A
theorem F0(name:ByteArray)(lb:List Nat):∀A:List Af,iP (kL A name lb)=iP A+lb.length/\(kL A name lb).length<=A.length+1/\∀b:Nat,(∀a∈A,a.l.length<=b)->∀a∈kL A name lb,a.l.length<=b+lb.length
 |[]=>⟨by simp[kL,iP],by simp[kL],λb h a ha=>by rw[aL.1 ha];simp⟩
 |x::A=>by
  obtain⟨h1,h2,h3⟩:=F0 name lb A;rw[kL];split
  ·refine⟨by simp only[iP,aZ,List.sum_cons,ax];omega,by simp,λb h a ha=>?_⟩
   rcases aU.1 ha with rfl|ha
   ·have:=h x (dv ..)
    simp only[ax];omega
   ·have:=h a (bO _ ha);omega
  ·refine⟨by simp only[iP,aZ,List.sum_cons]at h1⊢;omega,by simp only[bd];omega,λb h a ha=>?_⟩
   rcases aU.1 ha with rfl|ha
   ·have:=h a (dv ..);omega
   ·exact h3 b (λa ha=>h a (bO _ ha)) a ha
theorem RG{g:Af->Af}(hg:∀a∈A,(g a).name=a.name)(name:ByteArray):bS (A.map g) name=(bS A name).map g:=by
 induction A with
 |nil=>rfl
 |cons a A ih=>
  have ih:=ih λa ha=>hg a (bO _ ha);simp only[bS,aZ,iZ]at ih⊢;rw[hg a (dv ..)];split
  ·rfl
  ·exact ih
structure Rf where
 name:ByteArray
 b:ByteArray
 fB:Nat
theorem adc(c:Nat):DH c=true↔((97<=c/\c<=122)\/(48<=c/\c<=57)\/c=45\/c=46):=by simp[DH]
abbrev afZ(n:Int):CV:=.v (.int .u32 n)
theorem La.real(h:La m v l)(hl:l≠[]):∃b o c,v= .slice (some ⟨b,o,none⟩) l.length c:=(h.lb hl).real hl
theorem Lb.je{j:Nat}(h:Lb m (.slice (some ⟨b,o,none⟩) n c) l){x:Int}(hj:l[j]?=some x):gR m b (o+j)=some (.int .u8 x):=by
 obtain⟨arr,t,fr,h1,h2⟩:=h.range;exact aF h1 (h2 j _ (by simp[hj]))
theorem ZS(h:i<l.length):(l.take (i+1)).foldl (λs c=>Fr.JZ s c.toNat) 4294967295=Fr.JZ ((l.take i).foldl (λs c=>Fr.JZ s c.toNat) 4294967295) (l[i]).toNat:=by
 rw[au h,iT];rfl
theorem aa3{s:Nat}{x:Int}(hs:s<2^32)(hx:0<=x/\x<256):cp .xor .u32 (s:Int) (IntKind.u32.wrap x)=((s ^^^ x.toNat:Nat):Int):=by
 obtain⟨k,rfl⟩:∃k:Nat,x=k:=⟨x.toNat,by omega⟩;rw[XY (by omega) (by omega),pS hs (by omega)];rfl
theorem L3(hv:La m v l)(hb:jl l)(hl:l.length<=100000000):eN tP 251 [.v v] m [afZ ((Fr.Ov l:Nat):Int)]:=by
 obtain⟨a,c,rfl⟩:=hv.shape;refine ub Tryz.func251 ?_;refine .mk (ι:=Nat) (λi=>l.length-i) (λi mm=>i<=l.length/\mm=m) (λi=>[(3,.c (afZ (((l.take i).foldl (λs c=>Fr.JZ s c.toNat) 4294967295:Nat):Int))),(7,.c (.v (.slice a l.length c))),(8,.c (i64 l.length)),(9,.c (i64 i))]) (λ_=>[]) 0 ⟨by omega,rfl⟩ ?_ ?_
 ·exact Cr
 rintro i mm⟨hi,he⟩;subst mm;apply bI<;>intro h1
 ·have jc:=ah h1
  have bH:i<l.length:=by omega
  have ga:l≠[]:=by intro e;subst e;simp at bH
  obtain⟨b,o,c',hh⟩:=La.real hv ga;injection hh with eK _ fN;subst eK;have hx:=hb l[i] (aO bH)
  repeat refine xS ?_
  refine⟨_,by have:=Lb.je (hv.lb ga) (az bH);simp only[bK,aA];exact this,rfl,?_⟩;have hs:=Fr.FU (l:=l.take i) (s:=4294967295) (by decide) (hb.take i);have hft:=ZS bH;generalize (l.take i).foldl (λs c=>Fr.JZ s c.toNat) 4294967295=s0 at hs hft⊢;conv=>whnf
  rw[aa3 hs hx];have qW:s0 ^^^ (l[i]).toNat<2^32:=jB hs (by omega);have hc1:Fr.JZ s0 (l[i]).toNat=Fr.Jq 8 (s0 ^^^ (l[i]).toNat):=rfl;rw[hc1]at hft;generalize s0 ^^^ (l[i]).toNat=s1 at qW hft⊢;refine .mk (ι:=Nat) (λk=>8-k) (λk mm=>k<=8/\mm=m) (λk=>[(3,.c (afZ ((Fr.Jq k s1:Nat):Int))),(7,.c (.v (.slice (some ⟨b,o,none⟩) l.length c))),(8,.c (i64 l.length)),(9,.c (i64 i)),(17,.c (i64 k))]) (λ_=>[]) 0 ⟨by omega,rfl⟩ ?_ ?_
  ·exact Cr
  rintro k mm⟨hk,he⟩;subst mm;apply bI<;>intro h2
  ·have iD:=ah h2
   have DN:k<8:=by omega
   have hsk:=Fr.MD (k:=k) qW;have hsu:=Fr.KH k s1;generalize Fr.Jq k s1=s2 at hsk hsu⊢
   have ea:cp .and .u32 (s2:Int) 1=((s2%2:Nat):Int):=by
    have:=zR (a:=s2) (b:=1) hsk (by decide);rw[show(1:Int)=((1:Nat):Int) from rfl,this,Nat.and_one_is_mod]
   have er:oV .u32 (s2:Int) 1=((s2/2:Nat):Int):=by
    have:=nZ (k:=.u32) (x:=s2) (n:=1) (by decide);rw[show(1:Int)=((1:Nat):Int) from rfl,this,Nat.pow_one]
   conv=>whnf
   rw[ea,er];have ap2:s2/2<2^32:=by omega
   apply bI<;>intro h3
   ·have yF:s2%2=1:=by simp at h3;omega
    have est:Fr.stp s2=(s2/2) ^^^ 3988292384:=by rw[Fr.stp,aC yF]
    have ex:=pS (a:=s2/2) (b:=3988292384) ap2 (by decide);refine⟨k+1,⟨by omega,rfl⟩,by omega,?_⟩;rw[hsu,est];conv=>whnf
    repeat (refine And.intro (by first|with_reducible rfl|(first|exact cI (qJ (by omega))|exact cI ex)|exact cI (wi)|exact wi|rfl) ?_;conv=>whnf)
    exact xT
   ·have yF:¬s2%2=1:=by simp at h3;omega
    have est:Fr.stp s2=s2/2:=by rw[Fr.stp,if_neg yF]
    refine⟨k+1,⟨by omega,rfl⟩,by omega,?_⟩;rw[hsu,est];exact Cr
  ·have iD:=aj h2
   obtain rfl:k=8:=by omega
   refine⟨i+1,⟨by omega,rfl⟩,by omega,?_⟩;rw[hft];exact Cr
 ·have jc:=aj h1
  obtain rfl:i=l.length:=by omega
  rw[aJ];have hs:=Fr.FU (l:=l) (s:=4294967295) (by decide) hb;have hc:Fr.Ov l=l.foldl (λs c=>Fr.JZ s c.toNat) 4294967295 ^^^ 4294967295:=rfl;rw[hc];generalize l.foldl (λs c=>Fr.JZ s c.toNat) 4294967295=s0 at hs⊢;exact⟨by rw[show(4294967295:Int)=((4294967295:Nat):Int) from rfl,pS hs (by decide)],rfl⟩
theorem amh{x y z w:Int}:bF tP (.buildSlice 100 4 [0,1,2,3]) [.v (.int .u8 x),.v (.int .u8 y),.v (.int .u8 z),.v (.int .u8 w)] m λr m'=>∃b,m b=none/\r=[.v (.slice (some ⟨b,0,none⟩) 4 4)]/\m'=m.set b (.cells (bc [x,y,z,w]).toArray 5):=
 dm (n:=4) eR hBs rfl hU8 rfl rfl (by simp[CV.cs]) (by simp) (by simp)
theorem L4{s:Nat}(hs:s<2^32):bi tP 250 [afZ (s:Int)] m λr m'=>∃v p,r=[.v v]/\aq m' [p,m]/\Bs p v (Fr.pC s):=by
 have e8:=nZ (k:=.u32) (x:=s) (n:=8) (by decide);have e16:=nZ (k:=.u32) (x:=s) (n:=16) (by decide);have e24:=nZ (k:=.u32) (x:=s) (n:=24) (by decide);refine ub Tryz.func250 ?_;conv=>whnf
 rw[show(8:Int)=((8:Nat):Int) from rfl,e8,show(16:Int)=((16:Nat):Int) from rfl,e16,show(24:Int)=((24:Nat):Int) from rfl,e24];refine .mk _ (amh) ?_;rintro _ _⟨b,hb,rfl,rfl⟩;refine⟨_,_,rfl,(aq.one m).new hb _,?_⟩;refine Bs.Je (l:=Fr.pC s) ?_ rfl;rw[aG];simp only[IntKind.wrap_u8];have q8:(2:Nat)^8=256:=rfl;have q16:(2:Nat)^16=65536:=rfl;have q24:(2:Nat)^24=16777216:=rfl;rw[q8,q16,q24];rfl
theorem HK:eN tP 247 [i64 n] m [bR (Fr.mB n)]:=by
 refine ub Tryz.func247 ?_;conv=>whnf
 repeat' (first|(refine⟨λh=>?_,λh=>?_⟩<;>conv=>whnf)|fail)
 ·have h':=ah h
  have e1:decide (1<=n)=true:=bB (by omega);have e2:decide ((n:Int)<=20000)=decide (n<=20000):=fF.2 (by omega);rw[Fr.mB,e1,e2,bj];exact rR
 ·have h':=aj h
  have e1:decide (1<=n)=false:=aY (by omega);rw[Fr.mB,e1,fH];exact rR
theorem LV(hn:n<=1000000000):bi tP 249 [i64 n] m λr m'=>∃v p,r=[.v v]/\aq m' [p,m]/\Bs p v (fe n):=by
 refine A4 awn Tryz.func249 ?_;intro b hb;conv=>whnf
 have LK:=(aq.one m).new hb (.cells (LB.cz [.one (.slice none 0 0)]).toArray 162);have hw0:Wr (blk1 b (.cells (LB.cz [.one (.slice none 0 0)]).toArray 162)) b []:=⟨_,aG ..,Bs.nil _,by simp[lp]⟩;rw[wu (n:=(n:Int)) (by omega) (by omega)];refine aP ((iK hw0 (n:=(n:Int)) ⟨by omega,by omega⟩ (by simp)).at LK (i:=0) rfl) ?_;rintro _ m1⟨p1,⟨rfl,Zs⟩,bM⟩;have h9:=eI (n:Int);refine aP ((tF Zs (by simp;omega)).at bM (i:=0) rfl) ?_;rintro _ m2⟨p2,⟨v2,q,rfl,bZ,lD⟩,dy⟩;have eP:=(dy.Vn (i:=0) rfl bZ).dV 1;exact⟨v2,q,rfl,eP,by simpa using lD⟩
theorem XZ(hv:La m v l)(h:Fr.mB l.length=false):eN tP 174 [.v v] m [.v (.slice none 0 0),i64 3]:=by
 obtain⟨a,c,rfl⟩:=hv.shape;refine ub Tryz.func174 ?_;refine bt (HK) ?_;conv=>whnf
 rw[h];refine xY ?_;exact rR
theorem O7(hv:La m v l)(hb:jl l)(h:Fr.mB l.length=true):bi tP 174 [.v v] m λr m'=>∃v' p,r=[.v v',i64 0]/\aq m' [p,m]/\Bs p v' (Fr.wr l):=by
 have h':1<=l.length/\l.length<=20000:=by simpa [Fr.mB]using h
 obtain⟨a,c,rfl⟩:=hv.shape;have h9:=eI (l.length:Int);refine ub Tryz.func174 ?_;refine bt (HK) ?_;conv=>whnf
 rw[h];refine xN ?_;refine aP (LV (n:=l.length) (by omega)) ?_;rintro _ m1⟨v1,p1,rfl,bM,lZ⟩;refine bt (L3 (hv.sub (bM.sub)) hb (by omega)) ?_;refine aP (L4 (Fr.aeE hb)) ?_;rintro _ m2⟨v2,p2,rfl,bZ,lD⟩;have bZ:=bZ.under (a:=[p2]) bM;refine .mk _ (aip) ?_;rintro _ _⟨b3,Ah,rfl,rfl⟩;have dy:=bZ.new Ah (.cells #[v1,.slice a l.length c,v2] 100);have q1:cL p1 m2:=bZ.sub (by simp);have q2:cL p2 m2:=bZ.sub (by simp);have q3:cL m m2:=bZ.sub (by simp);have q4:=aD.bT (.cells #[v1,.slice a l.length c,v2] 100) Ah;refine aP (EX (jL.aos (aD.bg ..) (lZ.lb.la.sub (q1.trans q4)) (hv.sub (q3.trans q4)) (lD.lb.la.sub (q2.trans q4))) (by simp[oT,Fr.pC];omega) (by simp)) ?_;rintro _ m4⟨v',p,rfl,eP,pY⟩;have eP:=eP.under (a:=[p]) dy;refine⟨v',p,rfl,(((eP.dV 1).dV 1).dV 1),?_⟩;simpa [oT,Fr.wr,aX]using pY
theorem Vw{w:Value}{k:List Int}(hv:La m v l)(hw:La m w k)(hl:l.length<=100000000):eN tP 345 [.v v,.v w] m [bR (decide (l=k))]:=by
 obtain⟨a,c,rfl⟩:=hv.shape;obtain⟨aw,cw,rfl⟩:=hw.shape;refine A4 av2 Tryz.func345 ?_;apply bI<;>intro h
 ·have:l≠k:=by rintro rfl;simp at h
  rw[aY this];exact rR
 have DN:l.length=k.length:=by simp at h;omega
 rw[<-DN]at hw⊢;refine .mk (ι:=Nat) (λi=>l.length-i) (λi mm=>i<=l.length/\l.take i=k.take i/\mm=m) (λi=>[(0,.c (.v (.slice a l.length c))),(1,.c (.v (.slice aw l.length cw))),(12,.c (i64 l.length)),(13,.c (i64 i))]) (λ_=>[]) 0 ⟨by omega,by simp,rfl⟩ ?_ ?_
 ·exact Cr
 rintro i mm⟨hi,Ac,he⟩;subst mm;apply bI<;>intro h1
 ·have jc:=ah h1
  have bH:i<l.length:=by omega
  have ga:l≠[]:=by intro e;subst e;simp at bH
  have apM:k≠[]:=by intro e;rw[e]at DN;simp only[cW]at DN;omega
  obtain⟨b,o,c',hh⟩:=La.real hv ga;injection hh with eK _ fN;subst eK;have S8:La m (.slice aw k.length cw) k:=by rw[<-DN];exact hw
  obtain⟨bw,ow,c',hh⟩:=La.real S8 apM;injection hh with eK _ fN;subst eK;have wv:i<k.length:=by omega
  repeat refine xS ?_
  refine⟨_,by have:=Lb.je (hv.lb ga) (az bH);simp only[bK,aA];exact this,rfl,?_⟩
  repeat refine xS ?_
  refine⟨_,by have:=Lb.je (hw.lb apM) (az wv);simp only[bK,aA];exact this,rfl,?_⟩;apply bI<;>intro h2
  ·have:l≠k:=by rintro rfl;simp at h2
   rw[aY this];exact rR
  ·have iD:l[i]=k[i]:=by simpa using h2
   refine⟨i+1,⟨by omega,by rw[au bH,au wv,Ac,iD],rfl⟩,by omega,?_⟩;exact Cr
 ·have jc:=aj h1
  obtain rfl:i=l.length:=by omega
  rw[aJ,DN,aJ]at Ac;conv=>whnf
  rw[bB Ac];exact rR
theorem Lb.avQ(h:Lb m (.slice (some ⟨b,o,none⟩) n c) l):l.length<=c:=by
 rcases h.cases with⟨c,h1,h2⟩|⟨b',o',c',arr,t,fr,h1,h2,h3,h4⟩
 ·cases h1
 grind
theorem Lb.al8{c':Nat}(h:Lb m (.slice (some ⟨b,o,none⟩) n c) l)(i len:Nat)(hk:i+len<=l.length)(hc:len<=c'):Lb m (.slice (some ⟨b,o+i,none⟩) len c') ((l.drop i).take len):=by
 rcases h.cases with⟨c,h1,h2⟩|⟨b',o',c',arr,t,fr,h1,h2,h3,h4⟩
 ·cases h1
 ·cases h1
  refine Lb.mk h2 (by simp;omega) hc (λj x hj=>?_)
  grind
theorem Dw(hv:La m v l)(hb:jl l)(hl:l.length<=10000000):bi tP 282 [.v v] m λr m'=>∃v' p,r=[.v v',i64 ((Fr.next l).2.1:Nat),i64 (Fr.next l).2.2]/\aq m' [p,m]/\Bs p v' (Fr.next l).1:=by
 obtain⟨a,c,rfl⟩:=hv.shape;refine A4 awg Tryz.func282 ?_;refine aP (zy hv hb (by omega)) ?_;rintro _ m1⟨bp,p1,rfl,bM,h1⟩;refine aP ((j9 h1 (dG:=20000) ⟨by decide,by decide⟩).at bM (i:=0) rfl) ?_;rintro _ m2⟨p2,⟨rfl,h2,_⟩,bZ⟩;have hk:=ij (dG:=20000) (s:=(l,0)) hb ⟨by decide,by decide⟩;have iH:cL m m2:=bZ.sub (by simp);rcases hr:cZ 20000 (l,0)with⟨n,fb,e⟩;rw[hr]at h2 hk;simp only[]
 have hx:Fr.next l=(if e=8 then([],0,0)else if e≠0\/n=0 then([],0,3)else if (l.length:Int)-(fe n).length<n.toNat+4 then([],0,0)else
   if Fr.pC (Fr.Ov ((l.drop (fe n).length).take n.toNat))=(l.drop ((fe n).length+n.toNat)).take 4 then((l.drop (fe n).length).take n.toNat,(fe n).length+n.toNat+4,0)else([],0,9)):=by
  unfold Fr.next;simp only[hr]
 simp only at hk;obtain⟨ZB,U6⟩:=hk;have U6:n<=20000:=by omega
 have Bh:∃p,aq m2 [p,m]:=⟨_,bZ⟩;have h3:=h2.mono (bZ.sub);refine bt (iX h3) ?_;apply bI<;>intro h
 ·have h':e=8:=by simpa using h
  conv=>whnf
  rw[hx,aC h'];exact⟨_,_,rfl,bZ,Bs.nil _⟩
 have h8:¬e=8:=by simpa using h
 refine bt (iX h3) ?_;apply bI<;>intro h
 ·have h':e≠0:=by simpa using h
  conv=>whnf
  rw[hx,if_neg h8,aC (.inl h')];exact⟨_,_,rfl,bZ,Bs.nil _⟩
 have h0:e=0:=by simpa using h
 apply bI<;>intro h
 ·have h':n=0:=by simpa using h
  conv=>whnf
  rw[hx,if_neg h8,aC (.inr h')];exact⟨_,_,rfl,bZ,Bs.nil _⟩
 have hn0:¬n=0:=by simpa using h
 rw[if_neg h8,if_neg (by omega)]at hx;obtain⟨k,rfl⟩:∃k:Nat,n=k:=⟨n.toNat,by omega⟩;rw[aA]at hx;have h9:=eI (k:Int);refine aP (LV (n:=k) (by omega)) ?_;rintro _ m3⟨v1,q1,rfl,dy,lZ⟩;obtain⟨a1,c1,rfl⟩:=lZ.lb.shape;have dy:=dy.under (a:=[q1]) bZ;have apr:cL m m3:=dy.sub (by simp);generalize nT:(fe (k:Int)).length=je at*;have e1:IntKind.i64.wrap ((l.length:Int)-(je:Int))=(l.length:Int)-je:=wi;have e2:IntKind.i64.wrap ((k:Int)+4)=((k+4:Nat):Int):=by rw[wi];omega
 conv=>whnf
 rw[e1,e2];apply bI<;>intro h
 ·have h':=ah h
  conv=>whnf
  rw[hx,aC (by omega)];exact⟨_,_,rfl,dy.dV 1,Bs.nil _⟩
 have h':=aj h;rw[if_neg (by omega)]at hx;have e3:IntKind.i64.wrap ((je:Int)+(k:Int))=((je+k:Nat):Int):=by rw[wi];omega
 have ga:l≠[]:=by rintro rfl;simp at h';omega
 have hv0:=hv;obtain⟨b,o,c',hh⟩:=La.real hv ga;injection hh with eK _ fN;subst eK;have hlb:=(hv.lb ga).sub apr;have yA:=Lb.avQ hlb;conv=>whnf
 rw[e3]
 repeat refine xS ?_
 intro o1 I8 _;obtain rfl:o1=o+je:=by have:=I8 (by omega);rw[aA]at this;simpa using this
 simp only[aA];rw[show je+k-je=k by omega];have hd:=Lb.al8 (c':=c-je) hlb je k (by omega) (by omega);refine aP (sQ hd.la (by simp;omega)) ?_;rintro _ m4⟨v4,q4,rfl,eP,QZ⟩;conv=>whnf
 have eP:=eP.under (a:=[q4]) dy;have axx:cL m m4:=eP.sub (by simp);have hbd:jl ((l.drop je).take k):=(hb.drop _).take _;have e4:IntKind.i64.wrap (((je+k:Nat):Int)+4)=((je+k+4:Nat):Int):=by rw[wi];omega
 rw[e3,e4]
 repeat refine xS ?_
 intro o2 ho2 _;obtain rfl:o2=o+(je+k):=by have:=ho2 (by omega);rw[aA]at this;simpa using this
 simp only[aA];rw[show je+k+4-(je+k)=4 by omega];refine bt (L3 (QZ.lb.la.sub (eP.sub)) hbd (by simp;omega)) ?_;refine aP (L4 (Fr.aeE hbd)) ?_;rintro _ m5⟨v5,q5,rfl,eD,hv5⟩;have eD:=eD.under (a:=[q5]) eP;have Q0:cL m m5:=eD.sub (by simp);have hd2:=Lb.al8 (c':=c-(je+k)) ((hv.lb ga).sub Q0) (je+k) 4 (by omega) (by omega);refine bt (Vw (hv5.lb.la.sub (eD.sub)) hd2.la (by simp[Fr.pC])) ?_;apply bI<;>intro h
 ·have hq:¬Fr.pC (Fr.Ov ((l.drop je).take k))=(l.drop (je+k)).take 4:=by simpa using h
  conv=>whnf
  rw[hx,if_neg hq];exact⟨_,q5,rfl,((eD.dV 1).dV 1).dV 1,Bs.nil _⟩
 ·have hq:Fr.pC (Fr.Ov ((l.drop je).take k))=(l.drop (je+k)).take 4:=by simpa using h
  conv=>whnf
  rw[hx,aC hq];refine⟨v4,q4,?_,((eD.dV 2).dV 2).dV 0,QZ⟩;rw[e3,e4]
theorem Lb.ach(hv:La m (.slice (some ⟨b,o,none⟩) n c) l)(hc:l.length<=c)(k:Nat)(hk:k<=l.length)(o':Nat)(ho:c-k≠0->o'=o+k):La m (.slice (some ⟨b,o',none⟩) (l.length-k) (c-k)) (l.drop k):=by
 by_cases ga:l.drop k=[]
 ·have h0:l.length-k=0:=by have:=be List.length ga;simpa using this
  rcases hv with h|⟨rfl,a,h⟩
  ·rcases h.cases with⟨_,h1,_⟩|⟨b',o'',c',arr,t,fr,h1,h2,h3,h4⟩
   ·cases h1
   ·cases h1
    rw[ga,h0];exact(Lb.mk (l:=[]) (o:=o') h2 rfl (lF _) (λj x hj=>by cases hj)).la
  ·injection h with h1 h2 h3
   subst h3;exact .inr ⟨by simp,⟨b,o',none⟩,by simp⟩
 ·have hl:l≠[]:=by rintro rfl;simp at ga
  have hd:0<(l.drop k).length:=qS.2 ga;rw[cC]at hd;obtain rfl:=ho (by omega);have:=Lb.al8 (c':=c-k) (hv.lb hl) k (l.length-k) (by omega) (by omega);rw[bP (by simp)]at this;exact this.la
theorem aq.Wl{a b:aD}{l:List aD}(h:aq m (p::a::b::l)):aq m (p::ig a b::l)/\cL a (ig a b)/\cL b (ig a b):=by
 have h1:aq m (a::b::p::l):=h.fm ((List.Perm.swap a p (b::l)).trans ((List.Perm.swap b p l).cons a));refine⟨h1.jo.fm (List.Perm.swap p (ig a b) l),λx o hx=>by simp[ig,hx],λx o hx=>?_⟩;rcases h1.dj x with h'|h'
 ·simp[ig,h',hx]
 grind
variable{f:Nat}
theorem YK{b:List Int}(h:0<(Fr.next b).2.1):Fr.lU (f+1) b=((Fr.next b).1::(Fr.lU f (b.drop (Fr.next b).2.1)).1,(Fr.next b).2.1+(Fr.lU f (b.drop (Fr.next b).2.1)).2.1,(Fr.lU f (b.drop (Fr.next b).2.1)).2.2):=by
 rw[Fr.lU];simp only[aC h]
theorem YJ{b:List Int}(h:¬ 0<(Fr.next b).2.1):Fr.lU (f+1) b=([],0,(Fr.next b).2.2):=by
 rw[Fr.lU];simp only[if_neg h]
structure Got(l:List Int)(f:Nat)(je:Nat)(ls:List (List Int)):Prop where
 le:je<=l.length
 kJ:l.length-je<f
 vz:ls.length<=je
 eq:Fr.lU (l.length+1) l=(ls++(Fr.lU f (l.drop je)).1,je+(Fr.lU f (l.drop je)).2.1,(Fr.lU f (l.drop je)).2.2)
theorem Got.start(l:List Int):Got l (l.length+1) 0 []:=⟨by omega,by omega,by simp,by simp⟩
theorem Got.xn{je:Nat}{ls:List (List Int)}(h:Got l f je ls)(hp:0<(Fr.next (l.drop je)).2.1):∃f',f=f'+1/\Got l f' (je+(Fr.next (l.drop je)).2.1) (ls++[(Fr.next (l.drop je)).1]):=by
 obtain⟨f',rfl⟩:∃f',f=f'+1:=⟨f-1,by have:=h.kJ;omega⟩;have hl:=Fr.agQ (l.drop je);rw[cC]at hl;have:=h.le;have:=h.kJ;have:=h.vz
 refine⟨f',rfl,by omega,by omega,by simp;omega,?_⟩;rw[h.eq,YK hp,dU]
 grind
theorem Got.stop{je:Nat}{ls:List (List Int)}(h:Got l f je ls)(hp:¬ 0<(Fr.next (l.drop je)).2.1):Fr.lU (l.length+1) l=(ls,je,(Fr.next (l.drop je)).2.2):=by
 obtain⟨f',rfl⟩:∃f',f=f'+1:=⟨f-1,by have:=h.kJ;omega⟩;rw[h.eq,YJ hp];simp
theorem YL(hv:La m (.slice (some ⟨b,o,none⟩) l.length c) l)(hb:jl l)(hl:l.length<=10000000)(hc:l.length<=c):bi tP 191 [.v (.slice (some ⟨b,o,none⟩) l.length c)] m λr m'=>∃v' ps p,r=[.v v',i64 ((Fr.lU (l.length+1) l).2.1:Nat),i64 (Fr.lU (l.length+1) l).2.2]/\aq m' [p,m]/\jL p v' ps/\ps.map (·.2)=(Fr.lU (l.length+1) l).1:=by
 refine ub Tryz.func191 ?_
 refine .mk 0 _ rfl (ι:=Nat×Value×Nat) (λi=>i.1) (λ⟨f,x,k⟩ mm=>∃(ps:List (Value×List Int)) (p q:aD),Got l f k (ps.map (·.2))/\aq mm [p,q,m]/\mf p 100 1 x (ps.map (·.1))/\∀u∈ps,La q u.1 u.2)
  (λ⟨f,x,k⟩=>[(0,.c (.v (.slice (some ⟨b,o,none⟩) l.length c))),(5,.c (.v x)),(6,.c (i64 k))]) (λ_=>[]) ?_ ?_
 ·repeat refine xS ?_
  intro o1 I8 _;have EL:=Lb.ach hv hc 0 (by omega) o1 (λh=>by have:=I8 (by simp only[Int.toNat_zero];omega);simpa using this);have e0:c-(0:Int).toNat=c-0:=rfl;rw[e0,show l.length-(0:Int).toNat=l.length-0 from rfl];have hg:=Got.start l;refine aP (Dw EL (hb.drop _) (by simp;omega)) ?_;rintro _ m1⟨v1,p1,rfl,bM,lZ⟩;apply bI<;>intro h1
  ·have jc:0<(Fr.next (l.drop 0)).2.1:=by have:=ah h1;omega
   obtain⟨f',yz,js⟩:=hg.xn jc;have hle:=js.le;have bZ:aq m1 (iI::[p1,m]):=bM.cA;refine .mk _ (CC) ?_;rintro _ _⟨b1,kW,rfl,rfl⟩;refine .mk _ (ai4 (p:=iI) (y:=.slice none 0 0) (vs:=[]) bZ kW lZ.lb.one (.inl ⟨rfl,rfl⟩) (by simp)) ?_;rintro _ m2⟨x',p',rfl,dy,xq⟩;refine⟨(f',x',0+(Fr.next (l.drop 0)).2.1),⟨[(v1,(Fr.next (l.drop 0)).1)],p',p1,js,dy,xq,by simpa using lZ.lb.la⟩,?_⟩;conv=>whnf
   repeat (refine And.intro (by first|with_reducible rfl|(first|exact cI (by rw[wi];omega))|exact cI (wi)|exact wi|rfl) ?_;conv=>whnf)
   exact xT
  ·have jc:¬ 0<(Fr.next (l.drop 0)).2.1:=by have:=aj h1;omega
   have dI:=hg.stop jc;conv=>whnf
   rw[dI];exact⟨_,[],iI,rfl,(bM.dV 0).cA,⟨.inl ⟨_,rfl,rfl⟩,by simp⟩,rfl⟩
 ·rintro⟨f,x,k⟩ mm ⟨ps,p,q,hg,hs,hx,hq⟩
  have hle:=hg.le;have iH:cL m mm:=hs.sub (by simp)
  repeat refine xS ?_
  intro o1 I8 _;have EL:=Lb.ach (hv.sub iH) hc k hg.le o1 (λh=>by have:=I8 (by rw[aA];omega);simpa using this);simp only[aA];refine aP (Dw EL (hb.drop _) (by simp;omega)) ?_;rintro _ m1⟨v1,p1,rfl,bM,lZ⟩;have bM:=bM.under (a:=[p1]) hs;have Ro:=hg.vz;rw[aH]at Ro;apply bI<;>intro h1
  ·have jc:0<(Fr.next (l.drop k)).2.1:=by have:=ah h1;omega
   obtain⟨f',rfl,js⟩:=hg.xn jc;have aAS:=js.le;have bZ:aq m1 (p::[p1,q,m]):=bM.fm (List.Perm.swap _ _ _);refine .mk _ (CC) ?_;rintro _ _⟨b1,kW,rfl,rfl⟩;refine .mk _ (ai4 bZ kW lZ.lb.one hx (by simp;omega)) ?_;rintro _ m2⟨x',p',rfl,dy,xq⟩;obtain⟨eP,hsa,hsb⟩:=aq.Wl dy;refine⟨(f',x',k+(Fr.next (l.drop k)).2.1),⟨ps++[(v1,(Fr.next (l.drop k)).1)],p',_,by simpa using js,eP,by simpa using xq,?_⟩,by simp only;omega,?_⟩
   ·intro u hu
    rcases aR.1 hu with hu|hu
    ·exact(hq u hu).sub hsb
    ·rw[aL.1 hu];exact lZ.lb.la.sub hsa
   ·conv=>whnf
    repeat (refine And.intro (by first|with_reducible rfl|(first|exact cI (by rw[wi];omega))|exact cI (wi)|exact wi|rfl) ?_;conv=>whnf)
    exact xT
  ·have jc:¬ 0<(Fr.next (l.drop k)).2.1:=by have:=aj h1;omega
   have dI:=hg.stop jc;conv=>whnf
   rw[dI];have bZ:aq m1 (p::[q,m]):=bM.drop;have hd:=bZ.dj;have dy:=bZ.jo;refine⟨x,ps,ig p q,rfl,dy,⟨hx.ky.sub (λy u hu=>by simp[ig,hu]),λu hu=>(hq u hu).sub (λy w hw=>?_)⟩,rfl⟩;rcases hd y with h'|h'
   ·simp[ig,h',hw]
   ·rw[h']at hw;cases hw
end Go.E.Y
namespace Go.E
open Go.ChangeShapes Go.WideShapes Go.RowKit
def KW:Value->Value->Prop
 | .int k _,.int k' n=>k=k'/\(Lit.int k n).wf=true
 | .bool _,.bool _=>True
 | .string _,.string s=>s.size<=maxLen
 |_,_=>False
def KWs:List Value->List Value->Prop
 |[],[]=>True
 |z::zs,x::xs=>KW z x/\KWs zs xs
 |_,_=>False
section
variable {H:Type}{enc:TypeId×Value->H}{P:Program}{w:World}{gM:Nat}{qg:Nat->Bool}{DR:Bool}
theorem Ar(hl:laidOutB P=true){W W':World}(hb:Below W.heap.size W W'){sp:Nat->Bool}:∀{ts:List TypeId}{vs:List Value}{ds:List (DataW H)}{ps:List MemPlace},(∀t∈ts,P.readableRec t=true/\t<P.types.size)->
  DataW.TrodAll enc P W 0 (λ_=>true) true ts vs ds ps->(∀p∈ps,p.block<W.heap.size)->(∀p∈ps,sp p.block=true)->DataW.TrodAll enc P W' 0 sp true ts vs ds ps
 |[],[],[],ps,_,h,_,_=>h
 |t::ts,v::vs,d::ds,ps,hr,h,bH,hs=>by
  obtain⟨p,q,h1,h2,rfl⟩:=h
  refine⟨p,q,WideElems.Trod_stays hl (hr t (by simp)).1 (hr t (by simp)).2 h1 (λx hx=>hb.same (bH x (by simp[hx]))) (λx hx=>hs x (by simp[hx])),
   Ar hl hb (λt' ht'=>hr t' (by simp[ht'])) h2 (λx hx=>bH x (by simp[hx])) (λx hx=>hs x (by simp[hx])),rfl⟩
 |[],_::_,_,_,_,h,_,_=>h.elim
 |[],[],_::_,_,_,h,_,_=>h.elim
 |_::_,[],_,_,_,h,_,_=>h.elim
 |_::_,_::_,[],_,_,h,_,_=>h.elim
theorem ag6(hl:laidOutB P=true){f:Func}{s:ChangeSpec}{W W':World}{args:Array Value}{ds gs:List (DataW H)}{IQ:List MemPlace}{tb:TypeId}(ajo:s.vars=[])
  (hfn:s.fn H (ds++gs)={results:=[.lit (.bool true)],args:=ds}) (u9:f.resultTypes= #[tb]) (aqr:P.underlying tb=some .bool) (apz:f.params.toList.all (λt=>P.readableRec t&&decide (t<P.types.size))=true)
  (hW:DataW.Whole enc P f.params.toList s.vars false W args.toList ds gs IQ) (hb:Below W.heap.size W W'):s.post enc P f false true false false W args (.bool true) W':=by
 have bH:=hW.lt;have hW':=hW;obtain⟨p,q,hA,hV,rfl,hfz,NR⟩:=hW;rw[ajo]at hV;obtain⟨rfl,rfl⟩:=trodVars_none hV
 have ala:∀t∈f.params.toList,P.readableRec t=true/\t<P.types.size:=λt ht=>by
  grind
 have hA':DataW.TrodAll enc P W' 0 (λb=>decide (b<W.heap.size)) true f.params.toList args.toList ds p:=
  Ar hl hb ala hA (λx hx=>bH x (by simp[hx])) (λx hx=>by simpa using bH x (by simp[hx]))
 refine⟨ds,[],p++[],[],p,[],hW',?_,?_,?_,World.keptBut_mono (λx hx=>⟨hx,.inr (.inl (by simpa using hx))⟩) (hb.frame _),λh=>by cases h⟩
 ·rw[hfn,u9]
  exact trodAll_cons_mk (shut_bool aqr _) trodAll_mk0
 ·grind
 ·rw[hfn,ajo];rfl
end
open Go.ChangeShapes Go.WideShapes Go.RowKit
section
variable {H:Type}{enc:TypeId×Value->H}{P:Program}{w:World}{gM:Nat}{qg:Nat->Bool}{DR:Bool}
theorem yT{α:Type}(l:List α)(s:Nat):∀(n k:Nat),(k+n)*s<=l.length->((List.range' k n).map (λi=>(l.drop (i*s)).take s)).flatten=(l.drop (k*s)).take (n*s)
 |0,k,_=>by simp
 |n+1,k,h=>by
  have ih:=yT l s n (k+1) (by rw[show k+1+n=k+(n+1) by omega];exact h);simp only[Ft,aZ,dX,ih];rw[show(n+1)*s=s+n*s by rw[fM];omega,show(k+1)*s=k*s+s by rw[fM];omega];rw[List.take_add,dU]
theorem aha{k:IntKind}{c:List Value}{z:Int}(h:KWs [.int k z] c):∃n,c=[.int k n]/\(Lit.int k n).wf=true:=by
 match c,h with
 |[.int k' n],h=>obtain⟨⟨rfl,h⟩,_⟩:=h;exact⟨n,rfl,h⟩
theorem Iu{k:IntKind}{z:Int}:∀{els:List (List Value)},(∀c∈els,KWs [.int k z] c)->∃l:List Int,els.flatten=l.map (Value.int k)/\l.length=els.length/\∀n∈l,(Lit.int k n).wf=true
 |[],_=>⟨[],rfl,rfl,by simp⟩
 |c::els,h=>by
  obtain⟨n,rfl,hn⟩:=aha (h c (by simp));obtain⟨l,h1,h2,h3⟩:=Iu (els:=els) (λc hc=>h c (by simp[hc]));refine⟨n::l,by simp[h1],by simp[h2],?_⟩;intro x hx;rcases aU.1 hx with rfl|hx
  ·exact hn
  ·exact h3 x hx
end
open Go.ChangeShapes Go.WideShapes Go.RowKit
inductive Sh where
 |int (k:IntKind)
 |bool
 |AS
 |slice (e:Sh)
 |unit
 |jo (a b:Sh)
 |xm (n:Nat) (e:Sh)
def Sh.size:Sh->Nat
 | .unit=>0
 | .jo a b=>a.size+b.size
 | .xm n e=>n*e.size
 |_=>1
def tE(m:aD):Sh->List Value->Prop
 | .int k,cs=>∃n,cs=[.int k n]/\(Lit.int k n).wf=true
 | .bool,cs=>∃b,cs=[.bool b]
 | .AS,cs=>∃s,cs=[.string s]/\s.size<=maxLen
 | .slice e,cs=>∃(v:Value) (els:List (List Value)),cs=[v]/\(gq m e.size v els.flatten\/(els=[]/\∃a,v= .slice (some a) 0 0))/\fg v=els.length/\(∀c∈els,tE m e c)/\els.length<=maxLen
 | .unit,cs=>cs=[]
 | .jo a b,cs=>∃x y,cs=x++y/\tE m a x/\tE m b y
 | .xm n e,cs=>∃els:List (List Value),cs=els.flatten/\els.length=n/\∀c∈els,tE m e c
def ao7:Option TypeDesc->IntKind->Bool
 |some (.int k),q=>wY k q
 |_,_=>false
def Jd(P:Program):Sh->(TypeId->Bool)×(List Field->Nat->Bool)
 | .int k=>(λt=>ao7 (P.underlying t) k,λ_ _=>false)
 | .bool=>(λt=>match P.underlying t with|some .bool=>true|_=>false,λ_ _=>false)
 | .AS=>(λt=>match P.underlying t with|some .string=>true|_=>false,λ_ _=>false)
 | .slice e=>(λt=>match P.underlying t with|some (.slice et)=>(Jd P e).1 et&&(P.cellsOf et==e.size&&Nat.blt 0 e.size)|_=>false,λ_ _=>false)
 | .unit=>(λ_=>false,λfs _=>fs.isEmpty)
 | .jo a b=>
  let F:List Field->Nat->Bool:=λfs off=>match fs with
   |f::fs=>f.offset==off&&((Jd P a).1 f.type&&(P.cellsOf f.type==a.size&&(Jd P b).2 fs (off+a.size)))
   |[]=>false
  (λt=>match P.underlying t with|some (.struct fs)=>P.cellsOf t==a.size+b.size&&F fs.toList 0|_=>false,F)
 | .xm n e=>(λt=>match P.underlying t with|some (.array k et)=>Nat.beq k n&&((Jd P e).1 et&&(P.cellsOf et==e.size&&P.cellsOf t==n*e.size))|_=>false,λ_ _=>false)
section
variable {H:Type}{enc:TypeId×Value->H}{P:Program}{w:World}{gM:Nat}{qg:Nat->Bool}{DR:Bool}
theorem tE.one{m:aD}:∀{sh:Sh}{cs:List Value},tE m sh cs->∀u∈cs,u.oneCell'=true
 | .int k,cs,h,u,hu=>by obtain⟨n,rfl,_⟩:=h;simp at hu;subst hu;rfl
 | .bool,cs,h,u,hu=>by obtain⟨n,rfl⟩:=h;simp at hu;subst hu;rfl
 | .AS,cs,h,u,hu=>by obtain⟨n,rfl,_⟩:=h;simp at hu;subst hu;rfl
 | .slice e,cs,h,u,hu=>by
  obtain⟨v,els,rfl,h1,_⟩:=h;simp at hu;subst hu
  rcases h1 with h1|⟨_,a,rfl⟩
  ·exact h1.one
  ·rfl
 | .unit,cs,h,u,hu=>by simp only[tE]at h;subst h;cases hu
 | .jo a b,cs,h,u,hu=>by
  obtain⟨x,y,rfl,h1,h2⟩:=h;rcases aR.1 hu with hu|hu
  ·exact tE.one h1 u hu
  ·exact tE.one h2 u hu
 | .xm n e,cs,h,u,hu=>by
  obtain⟨els,rfl,_,h1⟩:=h;obtain⟨c,hc,huc⟩:=List.mem_flatten.1 hu;exact tE.one (h1 c hc) u huc
theorem Ry{els:List (List Value)}{s:Nat}(h:∀c∈els,c.length=s):els.flatten.length=els.length*s:=by
 induction els with
 |nil=>simp
 |cons a els ih=>
  simp only[dX,ax,bd];rw[ih (λc hc=>h c (by simp[hc])),h a (by simp),fM];omega
theorem tE.length{m:aD}:∀{sh:Sh}{cs:List Value},tE m sh cs->cs.length=sh.size
 | .int k,cs,h=>by obtain⟨n,rfl,_⟩:=h;rfl
 | .bool,cs,h=>by obtain⟨n,rfl⟩:=h;rfl
 | .AS,cs,h=>by obtain⟨n,rfl,_⟩:=h;rfl
 | .slice e,cs,h=>by obtain⟨v,els,rfl,_⟩:=h;rfl
 | .unit,cs,h=>by simp only[tE]at h;subst h;rfl
 | .jo a b,cs,h=>by
  obtain⟨x,y,rfl,h1,h2⟩:=h;simp only[ax,Sh.size,tE.length h1,tE.length h2]
 | .xm n e,cs,h=>by
  obtain⟨els,rfl,h2,h1⟩:=h;rw[Ry (λc hc=>tE.length (h1 c hc)),h2];rfl
theorem VO{α:Type}(l:List α)(s n:Nat)(h:l.length=n*s):((List.range' 0 n).map (λi=>(l.drop (i*s)).take s)).flatten=l:=by
 rw[yT l s n 0 (by rw[cD,h];exact aW _)];simp[<-h]
theorem aak{a:Addr}{v:Value}(h:w.cell? a=some v):∃b o arr t fr,a=⟨b,o,none⟩/\w.heap[b]?=some (.cells arr t fr)/\arr[o]?=some v:=by
 obtain⟨b,o,sp⟩:=a;unfold World.cell? at h;simp only at h
 split at h
 ·rename_i arr t fr hb
  cases sp with
  |some _=>simp at h
  |none=>exact⟨b,o,arr,t,fr,rfl,hb,by simpa using h⟩
 ·cases h
theorem add_zero(a:Addr):a.add 0=a:=by simp[Addr.add]
theorem abn(Ta:∀b,qg b=true):∀(sh:Sh),(∀(t:TypeId) (cs:List Value) (kJ:Nat) (x:DataW H×List MemPlace),(Jd P sh).1 t=true->DataW.trod enc P w gM qg DR kJ t cs=some x->tE (λb=>w.heap[b]?) sh cs)/\
  (∀(fs:List Field) (off:Nat) (cs:List Value),(Jd P sh).2 fs off=true->cs.length=off+sh.size->(∀f∈fs,∃kJ x,DataW.trod enc P w gM qg DR kJ f.type ((cs.drop f.offset).take (P.cellsOf f.type))=some x)->tE (λb=>w.heap[b]?) sh (cs.drop off)):=by
 intro sh
 induction sh with
 |int k=>
  refine⟨λt cs kJ x h ht=>?_,λfs off cs h=>by simp[Jd]at h⟩;simp only[Jd]at h
  cases hu:P.underlying t with
  |none=>rw[hu]at h;cases h
  |some d=>
   rw[hu]at h
   cases d<;>simp only[ao7]at h<;>try cases h
   rename_i q;have:=pA h;subst this
   obtain⟨n,rfl,_,hw⟩:=DataW.trod_int hu ht;exact⟨n,rfl,hw⟩
 |bool=>
  refine⟨λt cs kJ x h ht=>?_,λfs off cs h=>by simp[Jd]at h⟩;simp only[Jd]at h
  split at h
  ·rename_i hu;obtain⟨b,rfl,_⟩:=DataW.trod_bool hu ht;exact⟨b,rfl⟩
  ·cases h
 |AS=>
  refine⟨λt cs kJ x h ht=>?_,λfs off cs h=>by simp[Jd]at h⟩;simp only[Jd]at h
  split at h
  ·rename_i hu;obtain⟨s,rfl,_,hs⟩:=DataW.trod_string hu ht;exact⟨s,rfl,hs⟩
  ·cases h
 |unit=>
  refine⟨λt cs kJ x h ht=>by simp[Jd]at h,λfs off cs h hl _=>?_⟩;simp only[Sh.size]at hl;exact cF (by omega)
 |jo a b iha ihb=>
  have F:∀(fs:List Field) (off:Nat) (cs:List Value),(Jd P (.jo a b)).2 fs off=true->cs.length=off+(Sh.jo a b).size->(∀f∈fs,∃kJ x,DataW.trod enc P w gM qg DR kJ f.type ((cs.drop f.offset).take (P.cellsOf f.type))=some x)->tE (λb=>w.heap[b]?) (.jo a b) (cs.drop off):=by
   intro fs off cs h hl hf
   cases fs with
   |nil=>simp[Jd]at h
   |cons f fs=>
    simp only[Jd,aB,gU]at h;obtain⟨ho,h1,h2,h3⟩:=h;simp only[Sh.size]at hl;obtain⟨fu,x,hx⟩:=hf f (by simp);rw[ho,h2]at hx;refine⟨(cs.drop off).take a.size,cs.drop (off+a.size),?_,iha.1 _ _ _ _ h1 hx,ihb.2 fs (off+a.size) cs h3 (by omega) (λg hg=>hf g (by simp[hg]))⟩;rw[<-dU,dL]
  refine⟨λt cs kJ x h ht=>?_,F⟩;have h':(match P.underlying t with|some (.struct fs)=>P.cellsOf t==a.size+b.size&&(Jd P (.jo a b)).2 fs.toList 0|_=>false)=true:=h
  split at h'
  ·rename_i fs hu
   simp only[aB,gU]at h';obtain⟨xs,k,hk,_,hl,zu,hp⟩:=DataW.trod_struct hu ht
   have:=F fs.toList 0 cs h'.2 (by simp only[Sh.size];omega) (λf hf=>by
    obtain⟨i,hi,he⟩:=dc hf;have hy:=hp i f (by rw[<-bU,az hi,he]);rw[az (by simp at hi;omega)]at hy
    exact⟨k,_,hy⟩)
   simpa using this
  ·cases h'
 |xm n e ih=>
  refine⟨λt cs kJ x h ht=>?_,λfs off cs h=>by simp[Jd]at h⟩;simp only[Jd]at h
  split at h
  ·rename_i k et hu
   simp only[aB,gU]at h;obtain⟨U5,h1,h2,h3⟩:=h;have U5:=bu U5;subst U5;obtain⟨xs,fu,hfu,_,hl,zu,hp⟩:=DataW.trod_array hu ht;rw[h2]at hp;refine⟨(List.range' 0 k).map (λi=>(cs.drop (i*e.size)).take e.size),(VO cs e.size k (by omega)).symm,by simp,?_⟩;intro c hc;obtain⟨i,hi,rfl⟩:=aV.1 hc;simp at hi;have hy:=hp i hi;rw[az (by omega)]at hy;exact ih.1 _ _ _ _ h1 hy
  ·cases h
 |slice e ih=>
  refine⟨λt cs kJ x h ht=>?_,λfs off cs h=>by simp[Jd]at h⟩;simp only[Jd]at h
  split at h
  ·rename_i et hu
   simp only[aB,gU]at h;obtain⟨h1,h2,h3⟩:=h;have JL:0<e.size:=by rw[Nat.blt_eq]at h3;exact h3
   rcases DataW.trod_slice hu ht with⟨rfl,_⟩|⟨a,len,cap,ayQ,fb,n,_,rfl,_,hb,hl,hm,hlen,xz,yy,_⟩
   ·exact⟨_,[],rfl,.inl (.inl ⟨0,rfl,rfl⟩),rfl,by simp,by simp⟩
   ·rw[h2]at xz yy
    have first:∀i,(∃cs y,(w.cells? gM (a.add (i*e.size)) e.size).bind (DataW.trod enc P w gM qg DR n et)=some y/\cs=y)->∃cs y,w.cells? gM (a.add (i*e.size)) e.size=some cs/\DataW.trod enc P w gM qg DR n et cs=some y:=by
     rintro i⟨_,y,hy,_⟩;rw[Option.bind_eq_some_iff]at hy;obtain⟨cs,g1,g2⟩:=hy;exact⟨cs,y,g1,g2⟩
    have aqe:∀i,i<len->∃cs y,w.cells? gM (a.add (i*e.size)) e.size=some cs/\DataW.trod enc P w gM qg DR n et cs=some y:=by
     intro i hi;have:=xz i hi;rw[az (by omega)]at this;exact first i ⟨_,_,this,rfl⟩
    have au8:cap=0\/∃b o arr t fr,a=⟨b,o,none⟩/\w.heap[b]?=some (.cells arr t fr):=by
     by_cases hc:cap=0
     ·exact .inl hc
     ·right
      have:∃cs y,w.cells? gM (a.add (0*e.size)) e.size=some cs/\DataW.trod enc P w gM qg DR n et cs=some y:=by
       by_cases hl0:len=0
       ·obtain⟨qn,jK⟩:=yy (Ta _)
        have h0:=jK 0 (by omega);obtain⟨z,hz⟩:∃z,fb[0]?=some z:=⟨_,az (by omega)⟩;rw[hz,hl0]at h0;exact first 0 ⟨_,_,h0,rfl⟩
       ·exact aqe 0 (by omega)
      obtain⟨cs,y,g1,_⟩:=this;obtain⟨_,g3,g4⟩:=World.cells?_some g1;have:=g4 0 JL;rw[nw,add_zero,add_zero,az (by omega)]at this;obtain⟨b,o,arr,t,fr,e1,e2,_⟩:=aak this;exact⟨b,o,arr,t,fr,e1,e2⟩
    rcases au8 with rfl|⟨b,o,arr,t',fr,rfl,qL⟩
    ·obtain rfl:len=0:=by omega
     exact⟨_,[],rfl,.inr ⟨rfl,a,rfl⟩,rfl,by simp,by simp⟩
    ·have Z6:∀i,i<len->∃cs y,cs=((arr.toList.drop o).drop (i*e.size)).take e.size/\DataW.trod enc P w gM qg DR n et cs=some y/\o+i*e.size+e.size<=arr.size:=by
      intro i hi;obtain⟨cs,y,g1,g2⟩:=aqe i hi;obtain⟨_,g3,g4⟩:=World.cells?_some g1
      have g5:∀k,k<e.size->arr[o+i*e.size+k]?=cs[k]?:=by
       intro k ve;have:=g4 k ve;rw[ii,ii,iO qL]at this;exact this
      have Q9:o+i*e.size+e.size<=arr.size:=by
       have:=g5 (e.size-1) (by omega);rw[az (by omega)]at this;have:=(bE.1 this).1;omega
      refine⟨cs,y,?_,g2,Q9⟩
      apply List.ext_getElem?
      intro k;by_cases ve:k<e.size
      ·rw[<-g5 k ve,bN,aC ve,cT,cT,bU]
       congr 1;omega
      ·rw[jr (by omega),jr (by simp;omega)]
     have alH:len*e.size<=(arr.toList.drop o).length\/len=0:=by
      by_cases h0:len=0
      ·exact .inr h0
      ·obtain⟨_,_,_,_,g⟩:=Z6 (len-1) (by omega)
       left
       have:len*e.size=(len-1)*e.size+e.size:=by
        rw[<-lG];congr 1;omega
       simp;omega
     have ap8:=yT (arr.toList.drop o) e.size len 0 (by
      rw[cD];rcases alH with h|h
      ·exact h
      ·rw[h];simp)
     have alA:∀c∈(List.range' 0 len).map (λi=>((arr.toList.drop o).drop (i*e.size)).take e.size),tE (λb=>w.heap[b]?) e c:=by
      intro c hc;obtain⟨i,hi,rfl⟩:=aV.1 hc;simp at hi;obtain⟨cs,y,k1,k2,_⟩:=Z6 i hi;rw[<-k1];exact ih.1 _ _ _ _ h1 k2
     refine⟨_,(List.range' 0 len).map (λi=>((arr.toList.drop o).drop (i*e.size)).take e.size),rfl,.inl (.inr ⟨b,o,cap,len,arr,t',fr,rfl,qL,?_,hl,?_,?_⟩),by simp[fg],alA,by simp;omega⟩
     ·rw[Ry (λc hc=>(alA c hc).length)];simp
     ·intro j' u hu
      rw[ap8]at hu;simp only[nw,List.drop_zero,bN]at hu
      split at hu
      ·rw[cT,bU]at hu;exact hu
      ·simp at hu
     ·intro u hu
      obtain⟨c,hc,huc⟩:=List.mem_flatten.1 hu;exact(alA c hc).one u huc
  ·cases h
theorem Cg:∀{els:List (List Value)}{s i j:Nat}{c:List Value}{u:Value},(∀c∈els,c.length=s)->els[i]?=some c->c[j]?=some u->els.flatten[i*s+j]?=some u
 |[],_,_,_,_,_,_,hi,_=>by simp at hi
 |a::els,s,0,j,c,u,hl,hi,hj=>by
  simp at hi;subst hi
  have:=(aQ.1 hj).1;rw[nw,cD,dX,aT this];exact hj
 |a::els,s,i+1,j,c,u,hl,hi,hj=>by
  have ha:=hl a (by simp);have ih:=Cg (els:=els) (s:=s) (λc hc=>hl c (by simp[hc])) (by simpa using hi) hj;rw[dX,bJ (by rw[ha,fM];omega),ha,show(i+1)*s+j-s=i*s+j by rw[fM];omega];exact ih
theorem gq.elem{m:aD}{s:Nat}{v:Value}{els:List (List Value)}(h:gq m s v els.flatten)(hl:∀c∈els,c.length=s)(hp:0<s)(hv:fg v=els.length){i:Nat}(hi:i<els.length):
  ∃b o c,v= .slice (some ⟨b,o,none⟩) els.length c/\∀i c,els[i]?=some c->dQ m b (o+i*s) c:=by
 rcases h with⟨c,rfl,h⟩|⟨b,o,c,n,arr,t,fr,rfl,h1,h2,h3,h4,h5⟩
 ·simp[fg]at hv;omega
 ·simp only[fg]at hv;subst hv
  refine⟨b,o,c,rfl,λi c hc=>⟨arr,t,fr,h1,λj u hu=>?_⟩⟩;have:=h4 _ u (Cg hl hc hu)
  grind
theorem Sg{m:aD}{k:IntKind}{n:Nat}{cs:List Value}(h:tE m (.xm n (.int k)) cs):∃l:List Int,cs=l.map (Value.int k)/\l.length=n/\∀x∈l,(Lit.int k x).wf=true:=by
 obtain⟨els,rfl,rfl,h⟩:=h;have:=@Iu k 0 els (λc hc=>by obtain⟨n,rfl,hw⟩:=h c hc;exact⟨⟨rfl,hw⟩,trivial⟩)
 omega
theorem aac{m:aD}{k:IntKind}{cs:List Value}(h:tE m (.slice (.int k)) cs):∃(v:Value) (l:List Int),cs=[v]/\(gq m 1 v (l.map (Value.int k))\/(l=[]/\∃a,v= .slice (some a) 0 0))/\fg v=l.length/\(∀x∈l,(Lit.int k x).wf=true)/\l.length<=maxLen:=by
 obtain⟨v,els,rfl,h1,h2,h3,h4⟩:=h;obtain⟨l,g1,g2,g3⟩:=@Iu k 0 els (λc hc=>by obtain⟨n,rfl,hw⟩:=h3 c hc;exact⟨⟨rfl,hw⟩,trivial⟩)
 refine⟨v,l,rfl,?_,by omega,g3,by omega⟩;rcases h1 with h1|⟨rfl,a,rfl⟩
 ·rw[g1]at h1;exact .inl h1
 grind
theorem Qc(Ta:∀b,qg b=true){sh:Sh}{t:TypeId}{v:Value}{d:DataW H}{ps:List MemPlace}(hc:(Jd P sh).1 t=true)(hd:DataW.Trod enc P w gM qg DR t v d ps):tE (λb=>w.heap[b]?) sh v.cells.toList:=by
 obtain⟨kJ,hf⟩:=hd;exact(abn Ta sh).1 _ _ _ _ hc hf
theorem X6{r:Reach}{b0:Nat}{t e:TypeId}{v:Value}(hu:P.underlying t=some (.slice e))(h:Value.okWide P w r b0 t v):v.cells.toList=[v]/\v.oneCell'=true:=by
 unfold Value.okWide at h;rw[hu]at h;simp only[Cell.okWide,hu,Cell.ok]at h
 cases v<;>simp at h
 exact⟨rfl,rfl⟩
theorem afX{k:IntKind}{r:Reach}{b0:Nat}{t:TypeId}{v:Value}(hu:P.underlying t=some (.int k))(h:Value.okWide P w r b0 t v):v.cells.toList=[v]/\v.oneCell'=true:=by
 unfold Value.okWide at h;rw[hu]at h;simp only[Cell.okWide,hu,Cell.ok]at h
 cases v<;>simp at h
 exact⟨rfl,rfl⟩
theorem Tw{n:Int}(h:(Lit.int .i64 n).wf=true): -9223372036854775808<=n/\n<=9223372036854775807:=by
 simpa [Lit.wf,IntKind.min,IntKind.max,IntKind.signed,IntKind.bits]using h
theorem Tv{n:Int}(h:(Lit.int .u64 n).wf=true):0<=n/\n<18446744073709551616:=by
 have:0<=n/\n<=18446744073709551615:=by simpa [Lit.wf,IntKind.min,IntKind.max,IntKind.signed,IntKind.bits]using h
 omega
theorem aiN{n:Int}(h:(Lit.int .u8 n).wf=true):0<=n/\n<256:=by
 have:0<=n/\n<=255:=by simpa [Lit.wf,IntKind.min,IntKind.max,IntKind.signed,IntKind.bits]using h
 omega
end
end Go.E
namespace Go.E.Y
open Go.Proofs
theorem ab0{m:aD}{c:Nat}:bi tP 191 [.v (.slice none 0 c)] m λr m'=>∃v' ps p,r=[.v v',i64 ((Fr.lU (([]:List Int).length+1) []).2.1:Nat),i64 (Fr.lU (([]:List Int).length+1) []).2.2]/\aq m' [p,m]/\jL p v' ps/\ps.map (·.2)=(Fr.lU (([]:List Int).length+1) []).1:=by
 have dI:=(Got.start []).stop (by simp[Fr.Hi]);refine ub Tryz.func191 ?_;refine .mk 0 _ rfl (ι:=Nat) (λi=>i) (λ_ _=>False) (λ_=>[]) (λ_=>[]) ?_ ?_
 ·repeat refine xS ?_
  refine aP (Dw (l:=[]) (.inl (Lb.nil _ _)) (λx hx=>by cases hx) (by simp)) ?_;rintro _ m1⟨v1,p1,rfl,bM,lZ⟩;conv=>whnf
  rw[Fr.Hi];refine xN ?_;conv=>whnf
  rw[dI];exact⟨_,[],iI,rfl,(bM.dV 0).cA,⟨.inl ⟨_,rfl,rfl⟩,by simp⟩,rfl⟩
 ·rintro i mm h;exact h.elim
end Go.E.Y
namespace Go.E
end Go.E
namespace Go.E.Y
open Go.Proofs
def LsA(m:aD)(v:Value)(ps:List (Value×List Int)):Prop:=jL m v ps\/(ps=[]/\∃a,v= .slice (some a) 0 0)
variable{m:aD}{v:Value}{ps:List (Value×List Int)}
theorem LsA.shape(h:LsA m v ps):∃a c,v= .slice a ps.length c:=by
 rcases h with h|⟨rfl,a,rfl⟩
 ·exact h.shape
 ·exact⟨_,_,rfl⟩
theorem LsA.ao0(h:LsA m v ps)(hl:0<ps.length):jL m v ps:=by
 rcases h with h|⟨rfl,_⟩
 ·exact h
 ·simp at hl
theorem LsA.real(h:LsA m v ps){i:Nat}(hi:i<ps.length):∃b o c,v= .slice (some ⟨b,o,none⟩) ps.length c/\∀(i:Nat) (hi:i<ps.length),gR m b (o+i)=some ps[i].1:=(h.ao0 (by omega)).real hi
theorem LsA.la(h:LsA m v ps):∀p∈ps,La m p.1 p.2:=by
 rcases h with h|⟨rfl,_⟩
 ·exact h.la
 ·simp
theorem agp{ls:List aD}{p:aD}{b' i:Nat}{x:Value}{y:Value}{vs:List Value}(hs:aq m ls)(hi:ls[i]?=some p) (hb:m b'=some (.cells #[x] 100)) (hx:x.oneCell'=true) (hy:mf p 100 1 y vs) (hl:vs.length<=100000000):
  bF tP (.builtin .append [198,198]) [.v y,.v (.slice (some ⟨b',0,none⟩) 1 1)] m λr m'=>∃y' p',r=[.v y']/\aq m' (ls.set i p')/\mf p' 100 1 y' (vs++[x]):=by
 have e1:=hy.ky.len;have e2:fg (.slice (some ⟨b',0,none⟩) 1 1)=1:=rfl
 have g:s5 m 1 (.slice 100) (.slice (some ⟨b',0,none⟩) 1 1) [x]:=
  .inl ⟨_,rfl,.inl (.inr ⟨b',0,1,1,_,_,_,rfl,hb,rfl,aW _,λj u hu=>by simpa using hu,by simpa using hx⟩)⟩
 exact(kC eR ZN rfl hBs ZN rfl hs hi hy g (by rw[e2];simp only;omega) (by rw[e2];omega)).mono λr m' ⟨v',p',h1,h2,h3⟩=>⟨v',p',h1,h2,h3.ux⟩
end Go.E.Y
namespace Go.E.Fr
theorem zd:∀{l:List (List Int)}{k:Nat},(fC l k).2=(kP (l.take (fC l k).1)).length/\(fC l k).2<=k/\(kP l).take (fC l k).2=kP (l.take (fC l k).1)
 |[],k=>by simp[fC,kP]
 |r::l,k=>by
  have ih:=zd (l:=l) (k:=k-(wr r).length);unfold fC;by_cases h:(wr r).length<=k
  ·rw[aC h]
   dsimp only;obtain⟨h1,h2,h3⟩:=ih;have e:∀j,kP ((r::l).take (j+1))=wr r++kP (l.take j):=λj=>by simp[kP]
   have e0:kP (r::l)=wr r++kP l:=by simp[kP]
   refine⟨by rw[e,ax,<-h1],by omega,?_⟩;rw[e,e0,gj,bP (by omega),show(wr r).length+(fC l (k-(wr r).length)).2-(wr r).length=(fC l (k-(wr r).length)).2 by omega,h3]
  ·rw[if_neg h];simp[kP]
theorem Pe:∀{l:List (List Int)}{k s:Nat},s<=l.length->(kP (l.take s)).length<=k->s<=(fC l k).1
 |_,_,0,_,_=>lF _
 |[],k,s+1,h,_=>by simp at h
 |r::l,k,s+1,h,hk=>by
  have e:(kP ((r::l).take (s+1))).length=(wr r).length+(kP (l.take s)).length:=by simp[kP]
  have ih:=Pe (l:=l) (k:=k-(wr r).length) (s:=s) (by simpa using h) (by omega);unfold fC;rw[aC (by omega)];simp only;omega
end Go.E.Fr
namespace Go.E.Y
open Go.Proofs
def z6(l:List Int):List Nat:=l.map Int.toNat
variable{l:List Int}
theorem Nm(h:jl l):nc (z6 l)=l:=by
 rw[nc,z6,fS];refine(eu λx hx=>?_).trans (lL l);have:=h x hx;simp only[Function.comp,id];omega
theorem vL(l:List Int):(z6 l).length=l.length:=by simp[z6]
theorem Wh(h:jl l):∀x∈z6 l,x<256:=λx hx=>by
 obtain⟨y,hy,rfl⟩:=aV.1 hx;have:=h y hy;omega
theorem abp(l:List Int)(n:Nat):z6 (l.take n)=(z6 l).take n:=by simp[z6]
theorem TH(l k:List Int):z6 (l++k)=z6 l++z6 k:=by simp[z6]
theorem Sz(h:jl l)(n:Nat):jl (l.take n):=λx hx=>h x (bX hx)
abbrev eU(bf:Nat)(name:ByteArray)(all cY:Nat):Obj:=.cells #[.pointer (some ⟨bf,0,none⟩),.string name,.int .i64 (all:Int),.int .i64 (cY:Int)] 170
variable{m:aD}
theorem PU{v:Value}(hv:Lb m v l)(hb:jl l)(hl:l.length<=10000000):bi tP 191 [.v v] m λr m'=>∃v' ps p,r=[.v v',i64 ((Fr.lU (l.length+1) l).2.1:Nat),i64 (Fr.lU (l.length+1) l).2.2]/\aq m' [p,m]/\jL p v' ps/\ps.map (·.2)=(Fr.lU (l.length+1) l).1:=by
 rcases Lb.cases hv with⟨c,rfl,rfl⟩|⟨b,o,c,arr,t,fr,rfl,_,hc,_⟩
 ·exact ab0
 ·exact YL hv.la hb hl hc
variable{bf nb ns k:Nat}{q:Int}{A:List Af}{name:ByteArray}
theorem G0{p:aD}(h:FA p bf q nb ns A)(hk:Sm k A nb ns):bi tP 167 [.a [.one (.pointer (some ⟨bf,0,none⟩)),.one (.string name)]] p λr m'=>r=[]/\FA m' bf q nb (if (bS A name).isSome then ns+1 else ns) (jU A name):=by
 refine ub Tryz.func167 ?_;refine aP (abw (name:=name) h hk) ?_;rintro _ m1⟨rfl,h1⟩;exact⟨rfl,h1⟩
def wV(L:List ByteArray):List Nat:=L.filterMap sA
def gB(A:List Af):List Nat:=wV (ut (A.map (·.name)))
theorem Uq{L:List ByteArray}{i:Nat}(hi:i<L.length):wV (L.take (i+1))=wV (L.take i)++(sA L[i]).toList:=by
 rw[wV,au hi,List.filterMap_append]
 cases h:sA L[i]<;>simp[h,wV]
theorem Ld(L:List ByteArray):(wV L).length<=L.length:=List.length_filterMap_le _ _
theorem akG{l:List Nat}(h:∀x∈l,x<256):jl (nc l):=λx hx=>by
 obtain⟨y,hy,rfl⟩:=aV.1 hx;have:=h y hy;omega
def Eg(A:List Af):Prop:=∀a∈A,a.name.size<=1000000
theorem Ds(hg:jZ m)(h:FA m bf q nb ns A)(hk:Sm k A nb ns)(hn:Eg A):bi tP 173 [fy bf] m λr m'=>∃v p,r=[.v v]/\aq m' [p,m]/\Io p v (nc (gB A)):=by
 refine ub Tryz.func173 ?_;refine aP (WH h hk) ?_;rintro _ m1⟨v,p,rfl,hs,hv⟩
 have Ad:∀x∈ut (A.map (·.name)),x.size<=1000000:=λx hx=>by
  obtain⟨a,ha,rfl⟩:=aV.1 ((zf _).subset hx);exact hn a ha
 have hl:(ut (A.map (·.name))).length<=1000:=by
  rw[(zf _).length_eq,aH];have:=hk.n;have:=hk.k;omega
 unfold gB;generalize ut (A.map (·.name))=L at*;obtain⟨a,c,rfl⟩:=hv.sl.shape;refine .mk (ι:=Nat×Value) (λi=>L.length-i.1) (λ⟨i,y⟩ mm=>i<=L.length/\∃p',aq mm [p',p,m]/\Io p' y (nc (wV (L.take i)))) (λ⟨i,y⟩=>[(3,.c (.v y)),(9,.c (.v (.slice a L.length c))),(10,.c (i64 L.length)),(11,.c (i64 i))]) (λ_=>[]) (0,.slice none 0 0) ⟨by simp,iI,hs.cA,Io.nil _⟩ ?_ ?_
 ·exact Cr
 rintro⟨i,y⟩ mm ⟨hi,p',qW,hy⟩;apply bI<;>intro h
 ·have bH:i<L.length:=by have:=ah h;omega
  obtain⟨b,o,cc,e1,xz⟩:=(hv.sl.sub (qW.sub (a:=p))).real bH;injection e1 with e1 e2 e3;subst e1;have Xc:=Ld (L.take i);rw[aK]at Xc;refine⟨by omega,?_⟩;refine⟨_,xz i bH,rfl,?_⟩;refine bt (Qf (hg.sub (qW.sub (a:=m))) (Ad _ (aO bH))) ?_;conv=>whnf
  have ht:=Uq bH
  cases xr:sA L[i]with
  |none=>
   rw[xr]at ht;rw[Option.toList_none,cO]at ht;refine xN ?_;refine⟨(i+1,y),⟨by omega,p',qW,by rw[ht];exact hy⟩,by simp;omega,?_⟩;exact Cr
  |some n=>
   rw[xr]at ht;rw[Option.toList_some]at ht;refine⟨λ_=>?_,λh=>absurd h (by simp at h)⟩;refine .mk _ (qa) ?_;rintro _ _⟨b',qB,rfl,rfl⟩;refine .mk _ (Es (l:=nc (wV (L.take i))) qW qB hy (by rw[mH];omega)) ?_;rintro _ m'⟨y',p2,rfl,bZ,hy2⟩;refine⟨(i+1,y'),⟨by omega,p2,bZ,by rw[ht,nc,bD];exact hy2⟩,by simp;omega,?_⟩;exact Cr
 ·have h':=aj h
  obtain rfl:i=L.length:=by omega
  rw[aJ]at hy;exact⟨y,p',rfl,qW.dV 1,hy⟩
theorem Hq(h:FA m bf q nb ns A)(hk:Sm k A nb ns):bi tP 170 [fy bf] m λr m'=>r=[bR true]/\cL m m':=by
 refine ub Tryz.func170 ?_;refine aP (MW (name:=ByteArray.empty) h hk) ?_;rintro _ m1⟨v,p,rfl,hs,hv⟩;refine⟨?_,hs.sub (a:=m)⟩;rw[Ik]
 cases(bS A ByteArray.empty).isSome<;>rfl
theorem FA.xA{p:aD}(h:FA p bf q nb ns A):∀a∈A,∀x∈a.l,x<256:=by
 obtain⟨bm,clock,F,h1,rfl⟩:=h;intro a ha;obtain⟨f,hf,rfl⟩:=aV.1 ha;exact(h1.ok f hf).xA
def mL(A:List Af)(name:ByteArray):List Nat:=((bS A name).map (·.l)).getD []
theorem Sy{P:List Nat->Prop}(h:∀a∈A,P a.l)(h0:P []):P (mL A name):=by
 unfold mL
 cases e:bS A name with
 |none=>exact h0
 |some a=>exact h a (jn e)
def GL(l:List Int):List (List Int)×Nat×Int:=Fr.lU (l.length+1) l
def BZ(A:List Af):Nat×List (List Int)×Int:=match (gB A).getLast? with
 |none=>(0,[],0)
 |some n=>let r:=GL (nc (mL A (Sn.nm n)));if r.2.2=0/\r.2.1=(mL A (Sn.nm n)).length then(n,r.1,0)else(0,[],9)
theorem Hv(h:gB A=[]):BZ A=(0,[],0):=by
 unfold BZ;rw[h];rfl
theorem Hu{n:Nat}(h:(gB A).getLast?=some n):BZ A=if (GL (nc (mL A (Sn.nm n)))).2.2=0/\(GL (nc (mL A (Sn.nm n)))).2.1=(mL A (Sn.nm n)).length then(n,(GL (nc (mL A (Sn.nm n)))).1,0)else(0,[],9):=by
 unfold BZ;rw[h]
theorem Lc{L:List ByteArray}:∀n∈wV L,1<=n/\n<=999999:=λn hn=>by
 obtain⟨s,_,e⟩:=List.mem_filterMap.1 hn;exact⟨(pm e).1,(pm e).2.1⟩
theorem Dr(A:List Af):(gB A).length<=A.length:=by
 have:=Ld (ut (A.map (·.name)));rw[Gt,aH]at this;exact this
theorem akQ(hg:jZ m)(h:FA m bf q nb ns A)(hk:Sm k A nb ns)(hn:Eg A):bi tP 116 [fy bf] m λr m'=>∃v ps p,r=[i64 (BZ A).1,.v v,i64 (BZ A).2.2]/\aq m' [p,m]/\jL p v ps/\ps.map (·.2)=(BZ A).2.1:=by
 have hlen:=Dr A;have U5:=hk.n;have hkk:=hk.k;have ak8:∀n∈gB A,1<=n/\n<=999999:=Lc;refine ub Tryz.func116 ?_;refine aP (Hq h hk) ?_;rintro _ m0⟨rfl,LK⟩;refine xN ?_;refine aP (Ds (hg.sub LK) (h.grow LK) hk hn) ?_;rintro _ m1⟨v,p,rfl,hs,hv⟩;have hs:aq m1 [p,m]:=hs.under (a:=[p]) ((aq.one m).grow LK);obtain⟨a,c,rfl⟩:=hv.il.shape;rw[mH];apply bI<;>intro h1
 ·have h0:gB A=[]:=by simpa using h1
  conv=>whnf
  rw[Hv h0];exact⟨_,[],iI,rfl,(hs.drop).cA,⟨.inl ⟨_,rfl,rfl⟩,by simp⟩,rfl⟩
 have h0:0<(gB A).length:=qS.2 (by simpa using h1);have ga:gB A≠[]:=by intro e;rw[e]at h0;simp at h0
 have Q9:(gB A).getLast?=some ((gB A).getLast ga):=List.getLast?_eq_some_getLast ga;have nT:(gB A)[(gB A).length-1]?=some ((gB A).getLast ga):=by rw[<-Q9,List.getLast?_eq_getElem?]
 obtain⟨qn,jK⟩:=ak8 _ (List.getLast_mem ga);generalize (gB A).getLast ga=n at*;have hld:=Hu Q9;have apN:(nc (gB A)).length=(gB A).length:=mH _;obtain⟨b,o,cc,e1,xz⟩:=(hv.il.sub (hs.sub (a:=p))).real (i:=0) (by omega);injection e1 with e1 e2 e3;subst e1;have xz:=xz ((gB A).length-1) (by omega)
 have ee:(nc (gB A))[(gB A).length-1]'(by omega)=(n:Int):=by
  have:(nc (gB A))[(gB A).length-1]?=some (n:Int):=by rw[nc,cj,nT];rfl
  exact(aQ.1 this).2
 rw[ee]at xz;have ew:IntKind.i64.wrap (((gB A).length:Int)-1)=(((gB A).length-1:Nat):Int):=by rw[wi];omega
 conv=>whnf
 rw[ew];refine⟨by omega,?_⟩;refine⟨_,xz,rfl,?_⟩;refine bt (FH (hg.sub (hs.sub (a:=m))) qn jK) ?_;refine aP (MW (name:=Sn.nm n) (h.grow (hs.sub (a:=m))) hk) ?_;rintro _ m2⟨v2,p2,rfl,bZ,lD⟩;have bZ:aq m2 [p2,m]:=bZ.under (a:=[p2]) ((aq.one m).grow (hs.sub (a:=m)));have Fc:(mL A (Sn.nm n)).length<=10000000:=Sy (P:=λl=>l.length<=10000000) (λa ha=>by have:=hk.l a ha;omega) (by simp);have OU:jl (nc (mL A (Sn.nm n))):=akG (Sy (P:=λl=>∀x∈l,x<256) h.xA (by simp));have lD:Bs p2 v2 (nc (mL A (Sn.nm n))):=lD;have auq:(nc (mL A (Sn.nm n))).length=(mL A (Sn.nm n)).length:=mH _;generalize mL A (Sn.nm n)=l at*;refine aP (PU (lD.lb.sub (bZ.sub (a:=p2))) OU (by omega)) ?_;rintro _ m3⟨v',ps,pv,rfl,dy,hps,hpr⟩;have dy:aq m3 [pv,p2,m]:=dy.under (a:=[pv]) bZ;obtain⟨a2,c2,rfl⟩:=lD.lb.shape;have er:Fr.lU ((nc l).length+1) (nc l)=GL (nc l):=rfl;rw[er]at hpr⊢;rw[auq];generalize GL (nc l)=r at*;obtain⟨rr,t,e⟩:=r;dsimp only at hpr⊢;apply bI<;>intro h1
 ·have h2:¬e=0:=by simpa using h1
  rw[if_neg (by simp[h2])]at hld;rw[hld];exact⟨_,[],iI,rfl,(dy.drop.drop).cA,⟨.inl ⟨_,rfl,rfl⟩,by simp⟩,rfl⟩
 have h2:e=0:=by simpa using h1
 subst h2;apply bI<;>intro h1
 ·have h2:¬t=l.length:=by simp at h1;omega
  rw[if_neg (by simp[h2])]at hld;rw[hld];exact⟨_,[],iI,rfl,(dy.drop.drop).cA,⟨.inl ⟨_,rfl,rfl⟩,by simp⟩,rfl⟩
 ·have h2:t=l.length:=by simp at h1;omega
  rw[aC ⟨rfl,h2⟩]at hld;rw[hld];exact⟨v',ps,pv,rfl,dy.dV 1,hps,hpr⟩
theorem ue(s:ByteArray):(jR s).length=s.size:=by simp[jR]
section
variable {A:List Af}{L:List Rf}
end
end Go.E.Y
namespace Go.E.Sn
theorem aq8{a b:Nat}(ha:a<10)(hb:b<10)(h:a<b):dg a<dg b:=by
 have:(dg a).toNat<(dg b).toNat:=by rw[yO,yO];omega
 exact this
theorem FV:∀(k n:Nat),uc k n=uc k (n%10^k)
 |0,n=>rfl
 |k+1,n=>by
  rw[uc,uc,FV k (n/10),FV k (n%10^(k+1)/10)]
  have h1:n%10^(k+1)/10=n/10%10^k:=by
   rw[show 10^(k+1)=10*10^k by rw[gN];omega,Nat.mod_mul_right_div_self]
  have h2:n%10^(k+1)%10=n%10:=Nat.mod_mod_of_dvd _ ⟨10^k,by rw[gN];omega⟩;rw[h1,Nat.mod_mod]
  congr 2
  simp only[dg,h2]
theorem aex:∀{k a b:Nat},a<b->b<10^k->uc k a<uc k b
 |0,a,b,h,hb=>by simp at hb;omega
 |k+1,a,b,h,hb=>by
  have hp:0<10^k:=Nat.pow_pos (by decide);rw[Ix,Ix];have h1:b/10^k<10:=lI (by rw[gN]at hb;omega);have h2:a/10^k<=b/10^k:=Nat.div_le_div_right (I2 h);rcases Nat.lt_or_ge (a/10^k) (b/10^k)with h3|h3
  ·exact List.Lex.rel (aq8 (by omega) h1 h3)
  ·have h4:a/10^k=b/10^k:=by omega
   rw[h4];refine List.Lex.cons ?_;rw[FV k a,FV k b];refine aex ?_ (fo _ hp);have e1:=Jh a (10^k);have e2:=Jh b (10^k);rw[h4]at e1;omega
theorem akv{x y:List UInt8}(h:x<y):pre++x<pre++y:=List.Lex.cons (List.Lex.cons (List.Lex.cons (List.Lex.cons (List.Lex.cons h))))
end Go.E.Sn
namespace Go.E.Y
open Go.Proofs
variable{b:Nat}
theorem aoV{a:Nat}(h:a<b)(hb:b<=999999):tq (Sn.nm a)<tq (Sn.nm b):=by
 have e:∀n,tq (Sn.nm n)=Sn.pre++Sn.uc 6 n:=λn=>by simp[tq,Sn.nm]
 rw[e,e];exact Sn.akv (Sn.aex h (by omega))
theorem Pw(ss:List ByteArray):(ut ss).Pairwise λa b=>tq a<=tq b:=by
 have h:=ta DF DG (ss.map tq);unfold ut;rw[cG];refine h.imp λ{a b} h=>?_;have e:∀l:List UInt8,tq ⟨l.toArray⟩=l:=λl=>by simp[tq]
 rw[e,e];exact ah h
theorem Ni(A:List Af):(gB A).Pairwise (· <= ·):=by
 unfold gB wV;rw[List.pairwise_filterMap];refine(Pw _).imp λ{s t} h x hx y hy=>?_;obtain⟨h1,h2,h3⟩:=pm hx;obtain⟨k1,k2,k3⟩:=pm hy;subst h3 k3;refine Nat.le_of_not_lt λbH=>?_;have:=aoV bH h2;exact h this
theorem Ur(A:List Af):(gB A).Perm (wV (A.map (·.name))):=(zf _).filterMap _
variable{A:List Af}{n:Nat}
theorem u0:n∈gB A↔1<=n/\n<=999999/\∃a∈A,a.name=Sn.nm n:=by
 rw[(Ur A).mem_iff,wV,List.mem_filterMap]
 constructor
 ·rintro⟨s,hs,e⟩
  obtain⟨a,ha,rfl⟩:=aV.1 hs;obtain⟨h1,h2,h3⟩:=pm e;exact⟨h1,h2,a,ha,h3.symm⟩
 ·rintro⟨h1,h2,a,ha,e⟩
  exact⟨Sn.nm n,by rw[<-e];exact aV.2 ⟨a,ha,rfl⟩,Qg h1 h2⟩
section
variable {m mm p:aD}{bl bf nb ns all cY:Nat}{name:ByteArray}
theorem Hw(h:mm bl=some (eU bf name all cY)):eN tP 166 [fy bl] mm [bR true]:=by
 refine ub Tryz.func166 ?_;refine xY ?_;refine xM h ?_;exact rR
theorem Hr(h:mm bl=some (eU bf name all cY)):eN tP 54 [fy bl] mm [i64 cY]:=by
 refine ub Tryz.func54 ?_;refine xN ?_;refine xM h ?_;exact rR
theorem LC(h:mm bl=some (eU bf name all cY)):eN tP 32 [fy bl] mm [i64 all]:=by
 refine ub Tryz.func32 ?_;refine xN ?_;refine xM h ?_;exact rR
theorem C3{l:List Int}(h:l.length<=1000000000):(Fr.wr l).length<=l.length+13:=by
 have h1:=eI (l.length:Int);simp only[Fr.wr,Fr.pC,ax,bd,cW];omega
theorem UD{A:List Af}{k:Nat}{q:Int}(hs:aq mm [blk1 bl (eU bf name all cY),p,m])(h:FA p bf q nb ns A)(hk:Sm k A nb ns):
  bi tP 95 [fy bl] mm λr m'=>∃p' kc,r=[i64 0]/\aq m' [blk1 bl (eU bf name all all),p',m]/\FA p' bf q nb kc (jU A name)/\kc<=ns+1:=by
 have Fc:mm bl=some (eU bf name all cY):=hs.sub (a:=blk1 bl (eU bf name all cY)) (by simp) _ _ (aG ..);refine ub Tryz.func95 ?_;refine bt (Hw Fc) ?_;refine xN ?_;refine⟨[.one (.pointer (some ⟨bf,0,none⟩)),.one (.string name)],⟨rfl,rfl,trivial⟩,rfl,⟨_,_,_,Fc,λj u hu=>?_⟩,?_⟩
 ·match j,hu with
  |0,hu=>exact hu
  |1,hu=>exact hu
  |j+2,hu=>simp[LB.cz,eB.cells]at hu
 refine aP (bi.frame (hs.fm (List.Perm.swap _ _ _)) (G0 (name:=name) h hk)) ?_;rintro _ m2⟨p2,⟨rfl,h2⟩,eD⟩;have adU:=eD.sub (a:=blk1 bl (eU bf name all cY)) (by simp) _ _ (aG ..);have gC:=eD.gu (i:=1) rfl (aG ..) (eU bf name all all);rw[cJ]at gC;refine xM adU ?_;refine⟨_,_,_,adU,⟨by simp,by simp⟩,?_⟩;exact⟨p2,_,rfl,gC.fm (List.Perm.swap _ _ _),h2,by split<;>omega⟩
end
abbrev dB(bf:Nat)(n:Int)(v:Value)(st:Nat):Obj:=.cells #[.pointer (some ⟨bf,0,none⟩),.int .i64 n,v,.int .i64 (st:Int)] 277
variable{m:aD}
theorem UK{x n:Int}(h:gR m b 0=some (.int .i64 n)):eN tP 169 [i64 x,cx b] m [bR (decide (n<=x))]:=by
 refine ub Tryz.func169 ?_;refine⟨_,h,rfl,?_⟩;exact rR
def agW(A:List Af)(n:Int):Bool:=wZ n&& !(gB A).any λk=>decide (n<=(k:Int))
def oG(ps:List (List Int)):Bool:=ps.all λr=>Fr.mB r.length
theorem SN(l:List (List Int))(r:List Int):oG (l++[r])=(oG l&&Fr.mB r.length):=by simp[oG]
theorem IV:∀{l:List (List Int)},oG l=true->(Fr.kP l).length<=20013*l.length
 |[],_=>by simp[Fr.kP]
 |r::l,h=>by
  have h1:Fr.mB r.length=true/\oG l=true:=by simpa [oG]using h
  have h2:1<=r.length/\r.length<=20000:=by simpa [Fr.mB]using h1.1
  have h3:=C3 (l:=r) (by omega);have h4:=IV h1.2;have e:(Fr.kP (r::l)).length=(Fr.wr r).length+(Fr.kP l).length:=by simp[Fr.kP]
  rw[e,bd,Nat.mul_succ];omega
variable{bf nb ns k:Nat}{q:Int}{v:Value}
theorem aeS{n:Int}{ps:List (Value×List Int)}(hg:jZ m)(h:FA m bf q nb ns A)(hk:Sm k A nb ns)(hn:Eg A)(hm:agW A n=true)(hv:LsA m v ps)(hbt:∀r∈ps,jl r.2)(hlen:ps.length<=2000)(Ad:∀r∈ps,r.2.length<=1000000):bi tP 98 [fy bf,i64 n,.v v] m λr m'=>
  if oG (ps.map (·.2))then ∃bs v' pv,r=[fy bs,i64 0]/\aq m' [blk1 bs (dB bf n v' 1),pv,m]/\Bs pv v' (Fr.kP (ps.map (·.2)))else r=[aoW,i64 3]/\cL m m':=by
 obtain⟨hi,H3⟩:wZ n=true/\(nc (gB A)).any (λx=>decide (n<=x))=false:=by
  rw[agW,aB]at hm;refine⟨hm.1,?_⟩;have:=hm.2;rw[nc,List.any_map];simpa using this
 refine A4 c98 Tryz.func98 ?_;intro b hb;have hs:=aD.bT (.cells #[.int .i64 n] 3) hb;refine .mk _ (df (cs:=[.pointer (some ⟨b,0,none⟩)]) (by simp[Value.oneCell'])) ?_;rintro _ _⟨rfl,rfl⟩;refine aP (Hq (h.grow hs) hk) ?_;rintro _ m0⟨rfl,LK⟩;refine xN ?_;have hb0:gR m0 b 0=some (.int .i64 n):=nH (aF (aD.bg ..) rfl) LK;refine⟨_,hb0,rfl,?_⟩;refine bt (uz) ?_;conv=>whnf
 rw[hi];refine xN ?_;refine aP (Ds (hg.sub (hs.trans LK)) (h.grow (hs.trans LK)) hk hn) ?_;rintro _ m1⟨v1,p,rfl,bM,lZ⟩;have hl:=Dr A;have U5:=hk.n;have hkk:=hk.k;have kW:gR m1 b 0=some (.int .i64 n):=nH hb0 (bM.sub (a:=m0));refine bt (yP (p:=λx=>decide (n<=x)) (lZ.il.ia.sub (bM.sub (a:=p))) (λx=>UK kW) (by rw[mH];omega)) ?_;conv=>whnf
 rw[H3];refine xN ?_;refine⟨_,kW,rfl,?_⟩;intro bs yB;have NT:cL m m1:=(hs.trans LK).trans (bM.sub (a:=m0));have hsb:aq (m1.set bs (dB bf n (.slice none 0 0) 1)) [blk1 bs (dB bf n (.slice none 0 0) 1),iI,m]:=((aq.one m).grow NT |>.cA).new yB _;obtain⟨a,c,rfl⟩:=hv.shape;refine .mk (ι:=Nat×Value) (λi=>ps.length-i.1) (λ⟨i,y⟩ mm=>i<=ps.length/\oG ((ps.take i).map (·.2))=true/\∃p',aq mm [blk1 bs (dB bf n y 1),p',m]/\Bs p' y (Fr.kP ((ps.take i).map (·.2)))) (λ⟨i,y⟩=>[(9,.c (fy bs)),(33,.c (.v (.slice a ps.length c))),(34,.c (i64 ps.length)),(35,.c (i64 i))]) (λ_=>[]) (0,.slice none 0 0) ⟨by simp,rfl,iI,hsb,Bs.nil _⟩ ?_ ?_
 ·exact Cr
 rintro⟨i,y⟩ mm ⟨hi,cM,p',qW,hy⟩;apply bI<;>intro h
 ·have bH:i<ps.length:=by have:=ah h;omega
  obtain⟨bl,ol,cl,e1,xz⟩:=hv.real bH;injection e1 with e1 e2 e3;subst e1;have xz:=xz i bH;have AG:=hv.la _ (aO bH);have OU:=hbt _ (aO bH);have hz:=Ad _ (aO bH);have Ac:(ps.take (i+1)).map (·.2)=(ps.take i).map (·.2)++[ps[i].2]:=by rw[au bH,bD];rfl
  have wq:cL m mm:=qW.sub (a:=m);have adS:mm bs=some (dB bf n y 1):=qW.sub (a:=blk1 bs (dB bf n y 1)) (by simp) _ _ (aG ..);have ZH:=IV cM;rw[aH,aK,gH hi]at ZH;have aBe:20013*i<=20013*2000:=iV _ (by omega)
  repeat refine xS ?_
  refine⟨_,nH xz wq,AG.one,?_⟩
  cases hr:Fr.mB ps[i].2.length with
  |false=>
   refine bt (XZ (AG.sub wq) hr) ?_;refine xY ?_
   have xr:oG (ps.map (·.2))=false:=by
    cases e:oG (ps.map (·.2))with
    |false=>rfl
    |true=>
     have:=bL.1 e ps[i].2 (aV.2 ⟨_,aO bH,rfl⟩);rw[hr]at this;cases this
   rw[xr];exact⟨rfl,wq⟩
  |true=>
   have tY:1<=ps[i].2.length/\ps[i].2.length<=20000:=by simpa [Fr.mB]using hr
   have hw:=C3 (l:=ps[i].2) (by omega);refine aP (O7 (AG.sub wq) OU hr) ?_;rintro _ m2⟨vw,pw,rfl,hsw,hvw⟩;have hsw:aq m2 [pw,blk1 bs (dB bf n y 1),p',m]:=hsw.under (a:=[pw]) qW;refine xN ?_;refine⟨y,aF (hsw.sub (a:=blk1 bs (dB bf n y 1)) (by simp) _ _ (aG ..)) rfl,hy.lb.one,?_⟩;refine .mk _ (nQ (i:=2) hsw rfl hy ((hvw.lb.sub (hsw.sub (a:=pw))).la) (by omega)) ?_;rintro _ m3⟨y2,p2,rfl,bZ,hy2⟩;have bZ:aq m3 [pw,blk1 bs (dB bf n y 1),p2,m]:=bZ;refine⟨_,_,_,bZ.sub (a:=blk1 bs (dB bf n y 1)) (by simp) _ _ (aG ..),⟨by simp,by simp⟩,?_⟩;have dy:=bZ.gu (i:=1) rfl (aG ..) (dB bf n y2 1);rw[cJ]at dy;have dy:aq _ [pw,blk1 bs (dB bf n y2 1),p2,m]:=dy;refine⟨(i+1,y2),⟨by omega,by rw[Ac,SN,cM,hr];rfl,p2,dy.drop,?_⟩,by simp;omega,?_⟩
   ·rw[Ac,Fr.IJ,show Fr.kP [ps[i].2]=Fr.wr ps[i].2 by simp[Fr.kP]]
    exact hy2.ux
   exact Cr
 ·have h':=aj h
  obtain rfl:i=ps.length:=by omega
  rw[aJ]at cM hy;conv=>whnf
  rw[cM];exact⟨bs,y,p',rfl,qW,hy⟩
def gE:ByteArray:=⟨#[115,110,97,112,46,116,109,112]⟩
theorem akb:iQ (jR gE)=true:=by decide
def oZ(q:Int)(A:List Af)(l:List Nat):Prop:=¬(0<q/\q<(iP (r9 A gE)+l.length:Nat))
instance (q:Int) (A:List Af) (l:List Nat):Decidable (oZ q A l):=by unfold oZ;infer_instance
def lP(n:Nat)(A:List Af)(L:List Nat):List Af:=L.foldl (λA k=>if k<n then r9 A (Sn.nm k)else A) A
def r6(n:Nat)(A:List Af):List Af:=lP n A (gB A)
theorem aoA(A:List Af)(name:ByteArray):r9 (r9 A name) name=r9 A name:=by
 unfold r9;rw[List.filter_filter];simp
theorem Eg.rm(h:Eg A)(name:ByteArray):Eg (r9 A name):=λa ha=>h a (cH.1 ha).1
theorem Sm.rm(h:Sm k A nb ns)(name:ByteArray):Sm k (r9 A name) nb ns:=
 ⟨λa ha=>h.l a (cH.1 ha).1,bq (bC _ _) h.n,h.nb,h.ns,h.k⟩
section
variable {mm m p pv:aD}{bs bf nb ns k n st:Nat}{q:Int}{A:List Af}{v:Value}{l:List Nat}
theorem Yt{m:aD}:eN tP 168 [aoW] m [i64 0]:=by
 refine ub Tryz.func168 ?_;refine xY ?_;exact rR
theorem TM(h:mm bs=some (dB bf n v st)):eN tP 168 [fy bs] mm [i64 st]:=by
 refine ub Tryz.func168 ?_;refine xN ?_;refine xM h ?_;exact rR
theorem GC(hs:aq mm [blk1 bs (dB bf n v st),pv,p,m])(hv:Bs pv v (nc l))(h:FA p bf q nb ns A)(hk:Sm k A nb ns)(xt:∀x∈l,x<256)(hl:l.length<=10000000)(hq:0<=q/\q<=9223372036854775807):
  bi tP 252 [fy bs] mm λr m'=>∃p',r=[i64 (if oZ q A l then 0 else 5)]/\aq m' [blk1 bs (dB bf n v st),pv,p',m]/\FA p' bf q (if oZ q A l then nb+l.length else nb) ns (if oZ q A l then kL (r9 A gE) gE l else r9 A gE):=by
 have yB:mm bs=some (dB bf n v st):=hs.sub (a:=blk1 bs (dB bf n v st)) (by simp) _ _ (aG ..);refine A4 awm Tryz.func252 ?_;refine xM yB ?_;refine aP (bi.at (i:=2) hs rfl (xW (name:=gE) h)) ?_;rintro _ m1⟨p1,⟨rfl,h1⟩,bM⟩;have bM:aq m1 [blk1 bs (dB bf n v st),pv,p1,m]:=bM;have adS:m1 bs=some (dB bf n v st):=bM.sub (a:=blk1 bs (dB bf n v st)) (by simp) _ _ (aG ..);have U6:=hk.rm gE;refine xM adS ?_;refine⟨_,aF adS rfl,hv.lb.one,?_⟩;have bZ:aq m1 [p1,blk1 bs (dB bf n v st),pv,m]:=bM.pick (i:=2) rfl;obtain⟨q1,mQ,dy,oF⟩:=aq.x7 bZ;refine aP (IR (name:=gE) (lb:=l) h1 dy U6 ((hv.lb.sub (mQ pv (by simp))).la) xt (by decide) hq hl) ?_;rintro _ m2⟨e,p2,A',oK,rfl,eP,h2,jK⟩;conv=>whnf
 rw[I1,if_neg (by rw[akb];decide)]at jK;have eP:aq m2 [p2,blk1 bs (dB bf n v st),pv,m]:=oF _ _ eP
 have eD:aq m2 [blk1 bs (dB bf n v st),pv,p2,m]:=eP.fm (by
  refine(List.Perm.swap _ _ _).trans (List.Perm.cons _ ?_)
  exact List.Perm.swap _ _ _)
 have adR:m2 bs=some (dB bf n v st):=eD.sub (a:=blk1 bs (dB bf n v st)) (by simp) _ _ (aG ..);by_cases hf:0<q/\q<(iP (r9 A gE)+l.length:Nat)
 ·rw[aC hf]at jK
  obtain⟨rfl,rfl,rfl⟩:=jK;have jH:¬oZ q A l:=λh=>h hf;refine xY ?_;refine xM adR ?_;refine aP (bi.at (i:=2) eD rfl (xW (name:=gE) h2)) ?_;rintro _ m3⟨p3,⟨rfl,h3⟩,gC⟩;conv=>whnf
  rw[aoA]at h3;exact⟨p3,by rw[if_neg jH],gC,by rw[if_neg jH,if_neg jH];exact h3⟩
 ·rw[if_neg hf]at jK
  obtain⟨rfl,rfl,rfl⟩:=jK;have jH:oZ q A l:=hf;refine xN ?_;exact⟨p2,by rw[aC jH],eD,by rw[aC jH,aC jH];exact h2⟩
theorem Pq{L:List Nat}{i:Nat}(hi:i<L.length):lP n A (L.take (i+1))=if L[i]<n then r9 (lP n A (L.take i)) (Sn.nm L[i])else lP n A (L.take i):=by
 rw[au hi,lP,iT];rfl
theorem TJ(hg:jZ m)(hs:aq mm [blk1 bs (dB bf n v st),p,m])(h:FA p bf q nb ns A)(hk:Sm k A nb ns)(hn:Eg A)(ml:n<=999999):
  bi tP 254 [fy bs] mm λr m'=>∃p',r=[]/\aq m' [blk1 bs (dB bf n v st),p',m]/\FA p' bf q nb ns (r6 n A):=by
 have yB:mm bs=some (dB bf n v st):=hs.sub (a:=blk1 bs (dB bf n v st)) (by simp) _ _ (aG ..);have ak8:∀x∈gB A,1<=x/\x<=999999:=Lc;have hl:=Dr A;have U5:=hk.n;have hkk:=hk.k;unfold r6;refine ub Tryz.func254 ?_;refine xM yB ?_;refine aP (Ds (hg.sub (hs.sub (a:=m))) (h.grow (hs.sub (a:=p))) hk hn) ?_;rintro _ m1⟨v1,pn,rfl,bM,lZ⟩;have bM:aq m1 [pn,blk1 bs (dB bf n v st),p,m]:=bM.under (a:=[pn]) hs;generalize gB A=L at*;have apN:(nc L).length=L.length:=mH _;obtain⟨a,c,rfl⟩:=lZ.il.shape;rw[apN];refine .mk (ι:=Nat) (λi=>L.length-i) (λi mm=>i<=L.length/\∃p',aq mm [pn,blk1 bs (dB bf n v st),p',m]/\FA p' bf q nb ns (lP n A (L.take i))) (λi=>[(0,.c (fy bs)),(10,.c (.v (.slice a L.length c))),(11,.c (i64 L.length)),(12,.c (i64 i))]) (λ_=>[]) 0 ⟨by omega,p,bM,h⟩ ?_ ?_
 ·exact Cr
 rintro i mi⟨hi,p',qW,h'⟩;apply bI<;>intro hc
 ·have bH:i<L.length:=by have:=ah hc;omega
  obtain⟨bl,ol,cl,e1,xz⟩:=(lZ.il.sub (qW.sub (a:=pn))).real (i:=i) (by omega);injection e1 with e1 e2 e3;subst e1;have xz:=xz i (by omega);have ee:(nc L)[i]'(by omega)=(L[i]:Int):=by simp[nc]
  rw[ee]at xz;have hx:=ak8 _ (aO bH);have dI:=Pq (n:=n) (A:=A) bH;have Xk:mi bs=some (dB bf n v st):=qW.sub (a:=blk1 bs (dB bf n v st)) (by simp) _ _ (aG ..);have JS:jZ mi:=hg.sub (qW.sub (a:=m));generalize L[i]=x at*
  repeat refine xS ?_
  refine⟨_,xz,rfl,?_⟩;refine xM Xk ?_;apply bI<;>intro hc
  ·have Vg:x<n:=by have:=ah hc;omega
   rw[aC Vg]at dI;refine bt (FH JS hx.1 hx.2) ?_;refine xM Xk ?_;refine aP (bi.at (i:=2) qW rfl (xW (name:=Sn.nm x) h')) ?_;rintro _ m2⟨p2,⟨rfl,h2⟩,bZ⟩;refine⟨i+1,⟨by omega,p2,bZ,by rw[dI];exact h2⟩,by first|omega|(simp only;omega),?_⟩;exact Cr
  ·have Vg:¬x<n:=by have:=aj hc;omega
   rw[if_neg Vg]at dI;refine⟨i+1,⟨by omega,p',qW,by rw[dI];exact h'⟩,by first|omega|(simp only;omega),?_⟩;exact Cr
 ·have Vg:=aj hc
  obtain rfl:i=L.length:=by omega
  rw[aJ]at h';exact⟨p',rfl,qW.drop,h'⟩
end
structure art where
 A:List Af
 st:Nat
 Yj:Nat
 e:Int
def ib(q:Int)(n:Nat)(l:List Nat)(st:Nat)(A:List Af):art:=
 if st=0 then⟨A,0,0,4⟩else if st=1 then if oZ q A l then⟨kL (r9 A gE) gE l,2,2,0⟩else⟨r9 A gE,1,0,5⟩
 else if st=2 then⟨jU A gE,3,3,0⟩else if st=3 then⟨E7 A gE (Sn.nm n),4,4,0⟩else⟨r6 n A,0,0,0⟩
theorem Sn.zq(n:Nat):(Sn.nm n).size=11:=by rw[Sn.nm,lX,ax,Sn.zD];rfl
def qG(q:Int)(l:List Nat)(st:Nat)(A:List Af)(nb:Nat):Nat:=if st=1/\oZ q A l then nb+l.length else nb
def qF(st:Nat)(A:List Af)(ns:Nat):Nat:=if st=2/\(bS A gE).isSome then ns+1 else ns
theorem Yr(q:Int)(l:List Nat)(st:Nat)(A:List Af)(nb:Nat):qG q l st A nb<=nb+l.length:=by
 unfold qG;split<;>omega
theorem Yq(st:Nat)(A:List Af)(ns:Nat):qF st A ns<=ns+1:=by
 unfold qF;split<;>omega
variable{mm p:aD}{bs:Nat}{l:List Nat}
theorem GD{pv:aD}{st:Nat}(hg:jZ m)(hs:aq mm [blk1 bs (dB bf n v st),pv,p,m])(hv:Bs pv v (nc l))(h:FA p bf q nb ns A)(hk:Sm k A nb ns)(xt:∀x∈l,x<256)(hl:l.length<=10000000)(hq:0<=q/\q<=9223372036854775807)(hn:Eg A)(ml:1<=n)(kV:n<=999999)(dI:st<=4):
  bi tP 175 [fy bs] mm λr m'=>∃p',r=[i64 (ib q n l st A).Yj,i64 (ib q n l st A).e]/\aq m' [blk1 bs (dB bf n v (ib q n l st A).st),pv,p',m]/\FA p' bf q (qG q l st A nb) (qF st A ns) (ib q n l st A).A:=by
 have yB:mm bs=some (dB bf n v st):=hs.sub (a:=blk1 bs (dB bf n v st)) (by simp) _ _ (aG ..)
 have hbp:aq mm [pv,m,blk1 bs (dB bf n v st),p]:=hs.fm (by
  refine(List.Perm.swap _ _ _).trans (List.Perm.cons _ ?_);refine(List.Perm.cons _ (List.Perm.swap _ _ _)).trans ?_
  exact List.Perm.swap _ _ _)
 have hdj:=hbp.dj
 have hsj:aq mm [blk1 bs (dB bf n v st),p,ig pv m]:=hbp.jo.fm (by
  refine(List.Perm.swap _ _ _).trans (List.Perm.cons _ ?_)
  exact List.Perm.swap _ _ _)
 have arl:∀m' p',aq m' [blk1 bs (dB bf n v st),p',ig pv m]->aq m' [blk1 bs (dB bf n v st),pv,p',m]:=λm' p' h=>by
  have h1:aq m' [ig pv m,blk1 bs (dB bf n v st),p']:=h.fm (by
   refine(List.Perm.cons _ (List.Perm.swap _ _ _)).trans ?_
   exact List.Perm.swap _ _ _)
  refine(h1.abk hdj).fm ?_;refine(List.Perm.cons _ (List.Perm.swap _ _ _)).trans ?_;refine(List.Perm.swap _ _ _).trans (List.Perm.cons _ (List.Perm.cons _ ?_));exact List.Perm.swap _ _ _
 have hgj:jZ (ig pv m):=hg.sub λx o ho=>by
  have:=hdj x;simp only[ig];rcases this with h|h
  ·rw[h];exact ho
  ·rw[h]at ho;cases ho
 refine ub Tryz.func175 ?_;refine xN ?_;refine xM yB ?_;refine xN ?_;refine xM yB ?_;have hc:st=0\/st=1\/st=2\/st=3\/st=4:=by omega
 rcases hc with rfl|rfl|rfl|rfl|rfl
 ·refine xY ?_
  exact⟨p,rfl,hs,by simp[qG,qF];exact h⟩
 ·refine xN ?_
  refine xY ?_;refine aP (GC hs hv h hk xt hl hq) ?_;rintro _ m1⟨p1,rfl,bM,h1⟩;have kW:m1 bs=some (dB bf n v 1):=bM.sub (a:=blk1 bs (dB bf n v 1)) (by simp) _ _ (aG ..);have enb:qG q l 1 A nb=if oZ q A l then nb+l.length else nb:=by simp[qG]
  have ens:qF 1 A ns=ns:=by simp[qF]
  have est:ib q n l 1 A=if oZ q A l then⟨kL (r9 A gE) gE l,2,2,0⟩else⟨r9 A gE,1,0,5⟩:=rfl
  by_cases hf:oZ q A l
  ·simp only[aC hf]at h1 est
   rw[aC hf];rw[est];refine xN ?_;refine xM kW ?_;refine⟨_,_,_,kW,⟨by simp,by simp⟩,?_⟩;have ew:(IntKind.i64.wrap (((1:Nat):Int)+1)).tmod 5=((2:Nat):Int):=by decide
   rw[ew];refine xM (aD.bg ..) ?_;have hz:=bM.gu (i:=0) rfl (aG ..) (dB bf n v 2);rw[cJ]at hz;refine⟨p1,?_,hz,by rw[enb,ens,aC hf];exact h1⟩;rfl
  ·simp only[if_neg hf]at h1 est
   rw[if_neg hf];rw[est];refine xY ?_;exact⟨p1,rfl,bM,by rw[enb,ens,if_neg hf];exact h1⟩
 ·refine xN ?_
  refine xN ?_;refine xY ?_;refine xM yB ?_;refine aP (bi.at (i:=2) hs rfl (abw (name:=gE) h hk)) ?_;rintro _ m1⟨p1,⟨rfl,h1⟩,bM⟩;have bM:aq m1 [blk1 bs (dB bf n v 2),pv,p1,m]:=bM;have kW:m1 bs=some (dB bf n v 2):=bM.sub (a:=blk1 bs (dB bf n v 2)) (by simp) _ _ (aG ..);refine xM kW ?_;refine⟨_,_,_,kW,⟨by simp,by simp⟩,?_⟩;have ew:(IntKind.i64.wrap (((2:Nat):Int)+1)).tmod 5=((3:Nat):Int):=by decide
  rw[ew];refine xM (aD.bg ..) ?_;have hz:=bM.gu (i:=0) rfl (aG ..) (dB bf n v 3);rw[cJ]at hz;refine⟨p1,?_,hz,by simp[qG,qF];exact h1⟩;rfl
 ·refine xN ?_
  refine xN ?_;refine xN ?_;refine xY ?_;refine xM yB ?_;refine bt (FH (hg.sub (hs.sub (a:=m))) ml kV) ?_;refine xM yB ?_;refine aP (bi.at (i:=2) hs rfl (abV (name:=gE) h (by rw[Sn.zq];decide))) ?_;rintro _ m1⟨p1,⟨rfl,h1⟩,bM⟩;have bM:aq m1 [blk1 bs (dB bf n v 3),pv,p1,m]:=bM;have kW:m1 bs=some (dB bf n v 3):=bM.sub (a:=blk1 bs (dB bf n v 3)) (by simp) _ _ (aG ..);refine xM kW ?_;refine⟨_,_,_,kW,⟨by simp,by simp⟩,?_⟩;have ew:(IntKind.i64.wrap (((3:Nat):Int)+1)).tmod 5=((4:Nat):Int):=by decide
  rw[ew];refine xM (aD.bg ..) ?_;have hz:=bM.gu (i:=0) rfl (aG ..) (dB bf n v 4);rw[cJ]at hz;refine⟨p1,?_,hz,by simp[qG,qF];exact h1⟩;rfl
 ·refine xN ?_
  refine xN ?_;refine xN ?_;refine xN ?_;refine xY ?_;refine aP (TJ (m:=ig pv m) hgj hsj h hk hn kV) ?_;rintro _ m1⟨p1,rfl,at0,h1⟩;have bM:aq m1 [blk1 bs (dB bf n v 4),pv,p1,m]:=arl _ _ at0;have kW:m1 bs=some (dB bf n v 4):=bM.sub (a:=blk1 bs (dB bf n v 4)) (by simp) _ _ (aG ..);refine xM kW ?_;refine⟨_,_,_,kW,⟨by simp,by simp⟩,?_⟩;have ew:(IntKind.i64.wrap (((4:Nat):Int)+1)).tmod 5=((0:Nat):Int):=by decide
  rw[ew];refine xM (aD.bg ..) ?_;have hz:=bM.gu (i:=0) rfl (aG ..) (dB bf n v 0);rw[cJ]at hz;refine⟨p1,?_,hz,by simp[qG,qF];exact h1⟩;rfl
theorem kx(k:Nat):Sn.nm k≠gE:=λh=>by
 have:=be ByteArray.size h;rw[Sn.zq]at this;exact absurd this (by decide)
variable{B:List Af}{name:ByteArray}
theorem OJ(h:∀b∈B,b.name≠name):kL B name l=B++[⟨name,l,0⟩]:=by
 induction B with
 |nil=>rfl
 |cons b B ih=>
  rw[kL,if_neg (λe=>h b (by simp) e.symm),ih λx hx=>h x (by simp[hx])];rfl
theorem aje:iQ (jR (Sn.nm n))=true:=by
 have hl:(jR (Sn.nm n)).length=11:=by rw[ue,Sn.zq]
 unfold iQ;rw[hl];simp only[aB,bA];refine⟨by decide,?_⟩;have e:jR (Sn.nm n)=(Sn.pre++Sn.uc 6 n).map UInt8.toNat:=by simp[jR,Sn.nm]
 rw[e,bD,List.all_append,aB];refine⟨by decide,?_⟩;rw[List.all_map,bL];intro x hx
 have key:∀(j n:Nat),∀x∈Sn.uc j n,∃q,x=Sn.dg q:=λj=>by
  induction j with
  |zero=>intro n x hx;cases hx
  |succ j ih=>
   intro n x hx;rcases aR.1 hx with hx|hx
   ·exact ih _ _ hx
   ·exact⟨n,aL.1 hx⟩
 obtain⟨q,rfl⟩:=key _ _ _ hx;have h1:=Sn.yO q;simp only[Function.comp,adc];omega
variable{R:List (List Int)}
theorem C6:Fr.fC R (Fr.kP R).length=(R.length,(Fr.kP R).length):=by
 have h1:=Fr.Pe (l:=R) (k:=(Fr.kP R).length) (s:=R.length) (aW _) (by rw[aJ];exact aW _);have h2:=Fr.BE (l:=R) (k:=(Fr.kP R).length);obtain⟨h3,_,_⟩:=Fr.zd (l:=R) (k:=(Fr.kP R).length);have h4:(Fr.fC R (Fr.kP R).length).1=R.length:=by omega
 rw[h4,aJ]at h3;exact Prod.ext h4 h3
theorem YM(hR:oG R=true):GL (Fr.kP R)=(R,(Fr.kP R).length,0):=by
 have h:=Fr.GK (l:=R) (k:=(Fr.kP R).length) (f:=(Fr.kP R).length+1) (λr hr=>bL.1 hR r hr) (by
  have:=Fr.C5 (l:=R) (k:=(Fr.kP R).length)
  omega)
 rw[aJ,C6,aJ]at h;exact h
theorem ag7(hs:l.Pairwise (· <= ·))(h1:n∈l)(h2:∀k∈l,k<=n):l.getLast?=some n:=by
 rcases List.eq_nil_or_concat l with rfl|⟨L,x,rfl⟩
 ·cases h1
 ·rw[List.concat_eq_append]at*
  rw[List.getLast?_append];have hx:=h2 x (by simp)
  have:n<=x:=by
   rcases aR.1 h1 with h|h
   ·exact(cm.1 hs).2.2 n h x (by simp)
   ·rw[aL.1 h];exact aW _
  simp;omega
theorem ag0{s:Nat}(hl:(gB A).getLast?=some n)(hf:bS A (Sn.nm n)=some ⟨Sn.nm n,z6 (Fr.kP R),s⟩)(hR:oG R=true)(hb:∀r∈R,jl r):BZ A=(n,R,0):=by
 rw[Hu hl];have e:mL A (Sn.nm n)=z6 (Fr.kP R):=by rw[mL,hf];rfl
 rw[e,Nm (Fr.zJ hb),YM hR,vL,aC ⟨rfl,rfl⟩]
theorem DX(x:ByteArray):bS [] x=none:=rfl
theorem gG(a:Af)(A:List Af)(x:ByteArray):bS (a::A) x=if x=a.name then some a else bS A x:=by
 unfold bS
 grind
theorem Ig{x:ByteArray}{a:Af}(h:bS A x=some a):a∈A/\a.name=x:=by
 unfold bS at h
 grind
theorem Ch{x:ByteArray}:(bS A x).isSome=true↔∃a∈A,a.name=x:=by
 unfold bS
 grind
theorem Bo{x:ByteArray}:bS A x=none↔∀a∈A,a.name≠x:=by
 rw[<-Option.not_isSome_iff_eq_none,Ch]
 grind
theorem vm(A:List Af)(n x:ByteArray)(l:List Nat):bS (kL A n l) x=if x=n then some (match bS A n with|some a=>{a with l:=a.l++l}|none=>⟨n,l,0⟩)else bS A x:=by
 induction A with
 |nil=>
  simp only[kL,gG,DX]
 |cons a A ih=>
  simp only[kL];by_cases h:n=a.name
  ·rw[aC h,gG,gG,gG,aC h]
   simp only;by_cases hx:x=n
   ·rw[aC (hx.trans h),aC hx]
   ·rw[if_neg (λe=>hx (e.trans h.symm)),if_neg hx,if_neg (λe=>hx (e.trans h.symm))]
  ·rw[if_neg h,gG,ih,gG,gG,if_neg h]
   by_cases hx:x=n
   ·rw[aC hx,if_neg (λe=>h (hx.symm.trans e)),aC hx]
   ·rw[if_neg hx,if_neg hx]
theorem nM(A:List Af)(n x:ByteArray):bS (jU A n) x=if x=n then(bS A x).map (λa=>{a with fB:=a.l.length})else bS A x:=by
 unfold jU;rw[RG (by intro a _;split<;>rfl)]
 cases h:bS A x with
 |none=>simp
 |some a=>
  have hn:=(Ig h).2;subst hn;by_cases hx:a.name=n
  ·simp[hx]
  ·simp[hx]
theorem If(A:List Af)(n x:ByteArray)(k:Nat):bS (xy A n k) x=if x=n then(bS A x).map (λa=>⟨a.name,a.l.take k,min a.fB k⟩)else bS A x:=by
 unfold xy;rw[RG (by intro a _;split<;>rfl)]
 cases h:bS A x with
 |none=>simp
 |some a=>
  have hn:=(Ig h).2;subst hn;by_cases hx:a.name=n
  ·simp[hx]
  ·simp[hx]
theorem pZ(A:List Af)(n x:ByteArray):bS (r9 A n) x=if x=n then none else bS A x:=by
 induction A with
 |nil=>simp[r9,DX]
 |cons a A ih=>
  unfold r9 at ih⊢;rw[mO];by_cases h:a.name=n
  ·rw[if_neg (by simp[h]),ih,gG]
   by_cases hx:x=n
   ·rw[aC hx,aC hx]
   ·rw[if_neg hx,if_neg hx,if_neg (λe=>hx (e.trans h))]
  ·rw[aC (by simp[h]),gG,ih,gG]
   by_cases hx:x=a.name
   ·rw[aC hx,aC hx,if_neg (λe=>h (hx.symm.trans e))]
   ·rw[if_neg hx,if_neg hx]
theorem aeh(z:Af)(b x:ByteArray)(A:List Af):bS (mS z b A) x=if x=b then some {z with name:=b}else bS A x:=by
 induction A with
 |nil=>simp only[mS,gG,DX]
 |cons a A ih=>
  simp only[mS];by_cases h:b=a.name
  ·rw[aC h,gG,gG]
   simp only;by_cases hx:x=b
   ·rw[aC hx,aC hx]
   ·rw[if_neg hx,if_neg hx,if_neg (λe=>hx (e.trans h.symm))]
  ·rw[if_neg h,gG,ih,gG]
   by_cases hx:x=b
   ·rw[aC hx,if_neg (λe=>h (hx.symm.trans e)),aC hx]
   ·rw[if_neg hx,if_neg hx]
theorem aeg{a b:ByteArray}{z:Af}(h:bS A a=some z)(hb:iQ (jR b)=true)(x:ByteArray):bS (E7 A a b) x=if x=b then some {z with name:=b}else if x=a then none else bS A x:=by
 unfold E7;rw[h];simp only;rw[aC hb,aeh,pZ]
theorem ER(n:Nat)(x:ByteArray):∀(L:List Nat) (A:List Af),bS (lP n A L) x=if L.any (λk=>decide (k<n)&&decide (x=Sn.nm k))then none else bS A x
 |[],A=>by simp[lP]
 |k::L,A=>by
  have ih:=ER n x L (if k<n then r9 A (Sn.nm k)else A);have e:lP n A (k::L)=lP n (if k<n then r9 A (Sn.nm k)else A) L:=by simp[lP]
  rw[e,ih,List.any_cons];by_cases hk:k<n
  ·rw[aC hk,pZ,bB hk]
   by_cases hx:x=Sn.nm k
   ·simp[hx]
   ·simp[hx]
  ·rw[if_neg hk,aY hk];simp
theorem u1:n∈gB A↔1<=n/\n<=999999/\(bS A (Sn.nm n)).isSome=true:=by rw[u0,Ch]
theorem wD(n:Nat)(A:List Af)(x:ByteArray):bS (r6 n A) x=if ∃k,k<n/\1<=k/\k<=999999/\x=Sn.nm k then none else bS A x:=by
 unfold r6;rw[ER];by_cases h:∃k,k<n/\1<=k/\k<=999999/\x=Sn.nm k
 ·rw[aC h]
  obtain⟨k,h1,h2,h3,rfl⟩:=h
  cases hf:bS A (Sn.nm k)with
  |none=>split<;>rfl
  |some a=>
   rw[aC];rw[dh];exact⟨k,u1.2 ⟨h2,h3,by rw[hf];rfl⟩,by simp[h1]⟩
 ·rw[if_neg h,if_neg]
  intro hc;rw[dh]at hc;obtain⟨k,hk,hc⟩:=hc;simp only[aB,bA]at hc;obtain⟨g1,g2,_⟩:=u1.1 hk
  grind
theorem Y9(h1:1<=n)(h2:n<=999999)(hs:(bS A (Sn.nm n)).isSome=true)(cM:∀k,1<=k->k<=999999->(bS A (Sn.nm k)).isSome=true->k<=n):(gB A).getLast?=some n:=
 ag7 (Ni A) (u1.2 ⟨h1,h2,hs⟩) λk hk=>by
  obtain⟨g1,g2,g3⟩:=u1.1 hk;exact cM k g1 g2 g3
theorem Y8(h:∀k,1<=k->k<=999999->bS A (Sn.nm k)=none):gB A=[]:=by
 refine List.eq_nil_iff_forall_not_mem.2 λk hk=>?_;obtain⟨g1,g2,g3⟩:=u1.1 hk
 grind
structure jf where
 g:Nat
 (P:List Kd)
 (R:List Kd)
 cY:Nat
 st:Nat
def jf.L(s:jf):List Kd:=iy [] (s.P++s.R)
theorem jf.asc(s:jf):s6 s.L:=rJ adl _
def kI(L:List Kd):List (List Int):=L.map nJ
def eJ(L:List Kd):List Nat:=z6 (Fr.kP (kI L))
def M6:List UInt8:=[108,111,103,45]
def gK(g:Nat):ByteArray:=⟨(M6++Sn.uc 6 g).toArray⟩
theorem u2(g:Nat):(gK g).size=10:=by rw[gK,lX,ax,Sn.zD];rfl
theorem Nw{a:Nat}(ha:a<=999999)(hb:b<=999999)(h:gK a=gK b):a=b:=by
 unfold gK at h
 have h1:M6++Sn.uc 6 a=M6++Sn.uc 6 b:=by
  grind
 exact Sn.Ou (by omega) (by omega) (List.append_cancel_left h1)
theorem nI(a b:Nat):gK a≠Sn.nm b:=λh=>by
 have:=be ByteArray.size h;rw[u2,Sn.zq]at this;cases this
theorem nq(a:Nat):gK a≠gE:=λh=>by
 have:=be ByteArray.size h;rw[u2]at this;exact absurd this (by decide)
theorem UG:iQ (jR (gK n))=true:=by
 have hd:∀(k:Nat) (m:Nat),(Sn.uc k m).all (λc=>DH c.toNat)=true:=by
  intro k
  induction k with
  |zero=>intro m;rfl
  |succ k ih=>
   intro m;rw[Sn.uc,List.all_append,ih];simp only[List.all_cons,List.all_nil,mj,bj];rw[Sn.yO];have:m%10<10:=fo _ (by decide);simp only[DH,eM,aB,bA];omega
 have e:jR (gK n)=(M6++Sn.uc 6 n).map UInt8.toNat:=by simp[jR,gK]
 rw[e];unfold iQ;rw[aH,ax,Sn.zD,List.all_map,List.all_append];have h1:(Sn.uc 6 n).all (DH∘UInt8.toNat)=true:=hd 6 n;rw[h1];decide
structure FI(q:Int)(A:List Af)(s:jf):Prop where
 gp:∀x∈s.P,ki x
 gr:∀x∈s.R,ki x
 g:s.g<=900000
 su:s.cY<=s.R.length
 sn:1<=s.g->bS A (Sn.nm s.g)=some ⟨Sn.nm s.g,eJ s.P,(eJ s.P).length⟩
 s0:s.g=0->s.P=[]
 lg:(bS A (gK s.g)=none/\s.R=[])\/∃sf,bS A (gK s.g)=some ⟨gK s.g,eJ s.R,sf⟩/\(eJ (s.R.take s.cY)).length<=sf/\sf<=(eJ s.R).length
 nl:∀n,s.g<n->n<=999999->bS A (gK n)=none
 nn:∀n,s.g<n->n<=999999->(bS A (Sn.nm n)).isSome=true->s.st=4/\n=s.g+1
 st:s.st<=4
 ss:0<s.st->s.cY=s.R.length
 t2:s.st=2->∃f,bS A gE=some ⟨gE,eJ s.L,f⟩
 t3:s.st=3->bS A gE=some ⟨gE,eJ s.L,(eJ s.L).length⟩
 t4:s.st=4->bS A (Sn.nm (s.g+1))=some ⟨Sn.nm (s.g+1),eJ s.L,(eJ s.L).length⟩
 qt:0<q->(iP A:Int)<=q
structure CI(q:Int)(A:List Af)(g:Nat)(P R:List Kd)(K:Nat):Prop where
 gp:∀x∈P,ki x
 gr:∀x∈R,ki x
 gb:g<=900001
 sn:1<=g->bS A (Sn.nm g)=some ⟨Sn.nm g,eJ P,(eJ P).length⟩
 s0:g=0->P=[]
 lg:(bS A (gK g)=none/\R=[]/\K=0)\/∃sf,bS A (gK g)=some ⟨gK g,z6 ((Fr.kP (kI R)).take K),sf⟩/\K<=(Fr.kP (kI R)).length
 nl:∀n,g<n->n<=999999->bS A (gK n)=none
 nn:∀n,g<n->n<=999999->bS A (Sn.nm n)=none
 qt:0<q->(iP A:Int)<=q
def dN(R:List Kd)(K:Nat):Nat:=(Fr.fC (kI R) K).1
variable{s:jf}
theorem FI.gl(h:FI q A s):∀x∈s.L,ki x:=
 Wf _ _ (by simp) λx hx=>(aR.1 hx).elim (h.gp x) (h.gr x)
theorem aeM(R:List Kd):(eJ R).length=(Fr.kP (kI R)).length:=vL _
theorem KP(R:List Kd)(n:Nat):kI (R.take n)=(kI R).take n:=jJ ..
theorem abZ(R:List Kd):(kI R).length=R.length:=aH ..
theorem xX(A B:List Kd):kI (A++B)=kI A++kI B:=bD ..
def kb(g:Nat)(P R:List Kd)(K:Nat):jf:=⟨g,P,R.take (dN R K),dN R K,0⟩
theorem uN(R:List Kd)(K:Nat):dN R K<=R.length:=by
 have:=Fr.BE (l:=kI R) (k:=K);rw[abZ]at this;exact this
theorem ki.isr{x:Kd}(h:ki x):Fr.mB (nJ x).length=true:=by
 have:=h.len;simp only[Fr.mB,aB,bA];omega
variable{R:List Kd}
theorem zi(h:∀x∈R,ki x):∀r∈kI R,Fr.mB r.length=true/\jl r:=by
 intro r hr;obtain⟨x,hx,rfl⟩:=aV.1 hr;exact⟨(h x hx).isr,FL x⟩
theorem PT(h:∀x∈R,ki x):oG (kI R)=true:=by
 rw[oG,bL];exact λr hr=>(zi h r hr).1
theorem E1(A B:List Kd):eJ (A++B)=eJ A++eJ B:=by rw[eJ,xX,Fr.IJ,TH];rfl
theorem aeK(x:Kd):eJ [x]=z6 (Fr.wr (nJ x)):=by simp[eJ,kI,Fr.kP]
theorem aeL:eJ []=[]:=rfl
theorem OB(R:List Kd)(n:Nat):(eJ (R.take n)).length<=(eJ R).length:=by
 have:eJ R=eJ (R.take n)++eJ (R.drop n):=by rw[<-E1,dL]
 grind
variable{g K:Nat}{P:List Kd}
theorem CI.load(h:CI q A g P R K):BZ A=(g,kI P,0):=by
 have hg:=h.gb;by_cases h0:g=0
 ·have hP:=h.s0 h0
  subst hP h0;exact Hv (Y8 λk h1 h2=>h.nn k (by omega) h2)
 ·have hs:=h.sn (by omega)
  refine ag0 (s:=(eJ P).length) (Y9 (by omega) (by omega) (by rw[hs];rfl) λk h1 h2 h3=>?_) hs (PT h.gp) λr hr=>(zi h.gp r hr).2;by_cases hk:g<k
  ·rw[h.nn k hk h2]at h3;cases h3
  ·omega
theorem CI.agz(h:CI q A g P R K)(hn:bS A (gK g)=none)(hg:g<=900000):FI q A (kb g P R K):=by
 have hR:R=[]/\K=0:=by
  rcases h.lg with⟨_,h1,h2⟩|⟨sf,h1,_⟩
  ·grind
  grind
 obtain⟨rfl,rfl⟩:=hR
 have e:kb g P [] 0=⟨g,P,[],0,0⟩:=by
  have:=uN [] 0;have h0:dN [] 0=0:=by simpa using this
  unfold kb;rw[h0];rfl
 rw[e]
 exact {
  gp:=h.gp
  gr:=by simp
  g:=hg
  su:=by simp
  sn:=h.sn
  s0:=h.s0
  lg:=.inl ⟨hn,rfl⟩
  nl:=h.nl
  nn:=λn h1 h2 h3=>by rw[h.nn n h1 h2]at h3;cases h3
  st:=by simp
  ss:=λhx=>absurd hx (by simp)
  t2:=λhx=>absurd hx (by simp)
  t3:=λhx=>absurd hx (by simp)
  t4:=λhx=>absurd hx (by simp)
  qt:=h.qt}
theorem CI.agy{sf:Nat}(h:CI q A g P R K)(hf:bS A (gK g)=some ⟨gK g,z6 ((Fr.kP (kI R)).take K),sf⟩)(hg:g<=900000):FI q (jU (xy A (gK g) (Fr.fC (kI R) K).2) (gK g)) (kb g P R K):=by
 obtain⟨w1,w2,w3⟩:=Fr.zd (l:=kI R) (k:=K);have qV:∀x,x≠gK g->bS (jU (xy A (gK g) (Fr.fC (kI R) K).2) (gK g)) x=bS A x:=λx hx=>by rw[nM,if_neg hx,If,if_neg hx]
 have hle:=uN R K
 have ux:bS (jU (xy A (gK g) (Fr.fC (kI R) K).2) (gK g)) (gK g)=some ⟨gK g,eJ (R.take (dN R K)),(eJ (R.take (dN R K))).length⟩:=by
  rw[nM,aC rfl,If,aC rfl,hf];simp only[dZ]
  have e:(z6 ((Fr.kP (kI R)).take K)).take (Fr.fC (kI R) K).2=eJ (R.take (dN R K)):=by
   rw[<-abp,List.take_take,gH w2,w3,eJ,KP,dN]
  rw[e]
 have ht:(R.take (dN R K)).length=dN R K:=by rw[aK];omega
 exact {
  gp:=h.gp
  gr:=λx hx=>h.gr x (bX hx)
  g:=hg
  su:=by show dN R K<=(R.take (dN R K)).length;omega
  sn:=λh1=>by
   show bS _ (Sn.nm g)=_
   rw[qV _ (λe=>nI g g e.symm)];exact h.sn h1
  s0:=h.s0
  lg:=.inr ⟨_,ux,OB _ _,aW _⟩
  nl:=λn h1 h2=>by
   show bS _ (gK n)=none
   have h1:g<n:=h1;rw[qV _ (λe=>by have:=Nw h2 (by omega) e;omega)];exact h.nl n h1 h2
  nn:=λn h1 h2 h3=>by
   rw[qV _ (λe=>nI g n e.symm),h.nn n h1 h2]at h3;cases h3
  st:=by simp[kb]
  ss:=λhx=>absurd hx (by simp[kb])
  t2:=λhx=>absurd hx (by simp[kb])
  t3:=λhx=>absurd hx (by simp[kb])
  t4:=λhx=>absurd hx (by simp[kb])
  qt:=λhq=>by
   have h1:=(uO (xy A (gK g) (Fr.fC (kI R) K).2) (gK g)).t;have h2:=(IE A (gK g) (Fr.fC (kI R) K).2).t;have h3:=h.qt hq
   omega}
def jf.put(s:jf)(x:Kd):jf:={s with R:=s.R++[x]}
theorem jf.ai3(s:jf)(x:Kd):(s.put x).L=iz s.L x.1 x.2:=by
 show iy [] (s.P++(s.R++[x]))=iz (iy [] (s.P++s.R)) x.1 x.2
 rw[<-aX,F7]
theorem FI.put{x:Kd}(h:FI q A s)(h0:s.st=0)(hx:ki x)(hq:¬(0<q/\q<(iP A+(Fr.wr (nJ x)).length:Nat))):FI q (kL A (gK s.g) (z6 (Fr.wr (nJ x)))) (s.put x):=by
 have hg:=h.g;have qV:∀y,y≠gK s.g->bS (kL A (gK s.g) (z6 (Fr.wr (nJ x)))) y=bS A y:=λy hy=>by rw[vm,if_neg hy]
 have Ac:(s.R++[x]).take s.cY=s.R.take s.cY:=by rw[dD h.su]
 exact {
  gp:=h.gp
  gr:=λy hy=>by
   rcases aR.1 hy with hy|hy
   ·exact h.gr y hy
   ·rw[aL.1 hy];exact hx
  g:=h.g
  su:=by
   have:=h.su
   show s.cY<=(s.R++[x]).length
   rw[ax];omega
  sn:=λh1=>by
   show bS _ (Sn.nm s.g)=_
   rw[qV _ (λe=>nI _ _ e.symm)];exact h.sn h1
  s0:=h.s0
  lg:=by
   refine .inr ?_
   show ∃sf,bS _ (gK s.g)=some ⟨gK s.g,eJ (s.R++[x]),sf⟩/\(eJ ((s.R++[x]).take s.cY)).length<=sf/\sf<=(eJ (s.R++[x])).length
   rw[Ac,E1,aeK,vm,aC rfl];rcases h.lg with⟨h1,h2⟩|⟨sf,h1,h2,h3⟩
   ·rw[h1,h2]
    refine⟨0,rfl,?_,by omega⟩;simp[aeL]
   ·rw[h1]
    exact⟨sf,rfl,h2,by rw[ax];omega⟩
  nl:=λn h1 h2=>by
   have h1:s.g<n:=h1;rw[qV _ (λe=>by have:=Nw h2 (by omega) e;omega)];exact h.nl n h1 h2
  nn:=λn h1 h2 h3=>by
   rw[qV _ (λe=>nI _ _ e.symm)]at h3;exact h.nn n h1 h2 h3
  st:=h.st
  ss:=λhs=>by
   have hs:0<s.st:=hs;omega
  t2:=λhs=>by have hs:s.st=2:=hs;omega
  t3:=λhs=>by have hs:s.st=3:=hs;omega
  t4:=λhs=>by have hs:s.st=4:=hs;omega
  qt:=λNP=>by
   have:=(F0 (gK s.g) (z6 (Fr.wr (nJ x))) A).1;rw[vL]at this
   omega}
def jf.Gj(s:jf):jf:={s with cY:=s.R.length}
theorem FI.akd(h:FI q A s):FI q (jU A (gK s.g)) s.Gj:=by
 have hg:=h.g;have qV:∀y,y≠gK s.g->bS (jU A (gK s.g)) y=bS A y:=λy hy=>by rw[nM,if_neg hy]
 exact {
  gp:=h.gp
  gr:=h.gr
  g:=h.g
  su:=aW _
  sn:=λh1=>by
   show bS _ (Sn.nm s.g)=_
   rw[qV _ (λe=>nI _ _ e.symm)];exact h.sn h1
  s0:=h.s0
  lg:=by
   show(bS (jU A (gK s.g)) (gK s.g)=none/\s.R=[])\/∃sf,bS (jU A (gK s.g)) (gK s.g)=some ⟨gK s.g,eJ s.R,sf⟩/\(eJ (s.R.take s.R.length)).length<=sf/\sf<=(eJ s.R).length
   rw[nM,aC rfl];rcases h.lg with⟨h1,h2⟩|⟨sf,h1,h2,h3⟩
   ·exact .inl ⟨by rw[h1];rfl,h2⟩
   ·refine .inr ⟨(eJ s.R).length,by rw[h1];rfl,?_,aW _⟩
    rw[aJ];omega
  nl:=λn h1 h2=>by
   have h1:s.g<n:=h1;rw[qV _ (λe=>by have:=Nw h2 (by omega) e;omega)];exact h.nl n h1 h2
  nn:=λn h1 h2 h3=>by
   rw[qV _ (λe=>nI _ _ e.symm)]at h3;exact h.nn n h1 h2 h3
  st:=h.st
  ss:=λ_=>rfl
  t2:=λhs=>by
   show ∃f,bS _ gE=some ⟨gE,eJ s.L,f⟩
   rw[qV _ (λe=>nq _ e.symm)];exact h.t2 hs
  t3:=λhs=>by
   show bS _ gE=some ⟨gE,eJ s.L,_⟩
   rw[qV _ (λe=>nq _ e.symm)];exact h.t3 hs
  t4:=λhs=>by
   show bS _ (Sn.nm (s.g+1))=some ⟨Sn.nm (s.g+1),eJ s.L,_⟩
   rw[qV _ (λe=>nI _ _ e.symm)];exact h.t4 hs
  qt:=λhq=>by
   have:=(uO A (gK s.g)).t;have:=h.qt hq
   omega}
def jf.at(s:jf)(st:Nat):jf:={s with st:=st}
theorem FI.may(h:FI q A s)(h0:s.st=0):agW A ((s.g+1:Nat):Int)=true:=by
 have hg:=h.g;unfold agW wZ;rw[aB,aB,bA,bA,dH];refine⟨⟨by omega,by omega⟩,?_⟩;rw[oP];intro k hk hc;obtain⟨h1,h2,h3⟩:=u1.1 hk;have hc:=ah hc;have:=(h.nn k (by omega) h2 h3).1;omega
theorem FI.begin(h:FI q A s)(h0:s.st=0)(hs:s.cY=s.R.length):FI q A (s.at 1) where
 gp:=h.gp
 gr:=h.gr
 g:=h.g
 su:=h.su
 sn:=h.sn
 s0:=h.s0
 lg:=h.lg
 nl:=h.nl
 nn n h1 h2 h3:=by have:=(h.nn n h1 h2 h3).1;omega
 st:=by simp[jf.at]
 ss _:=hs
 t2 hx:=absurd hx (by simp[jf.at])
 t3 hx:=absurd hx (by simp[jf.at])
 t4 hx:=absurd hx (by simp[jf.at])
 qt:=h.qt
theorem FI.move{q:Int}{A A':List Af}{s:jf}{st:Nat}(h:FI q A s)(hp:0<s.st)(dI:st<=4)(hl:∀n,bS A' (gK n)=bS A (gK n))(hn:∀n,n<=s.g->bS A' (Sn.nm n)=bS A (Sn.nm n))
  (kV:∀n,s.g<n->n<=999999->(bS A' (Sn.nm n)).isSome=true->st=4/\n=s.g+1) (h2:st=2->∃f,bS A' gE=some ⟨gE,eJ s.L,f⟩) (h3:st=3->bS A' gE=some ⟨gE,eJ s.L,(eJ s.L).length⟩)
  (h4:st=4->bS A' (Sn.nm (s.g+1))=some ⟨Sn.nm (s.g+1),eJ s.L,(eJ s.L).length⟩) (hq:0<q->(iP A':Int)<=q):FI q A' (s.at st) where
 gp:=h.gp
 gr:=h.gr
 g:=h.g
 su:=h.su
 sn h1:=by
  show bS A' (Sn.nm s.g)=_
  rw[hn s.g (aW _)];exact h.sn h1
 s0:=h.s0
 lg:=by
  show(bS A' (gK s.g)=none/\s.R=[])\/∃sf,bS A' (gK s.g)=some ⟨gK s.g,eJ s.R,sf⟩/\(eJ (s.R.take s.cY)).length<=sf/\sf<=(eJ s.R).length
  rw[hl];exact h.lg
 nl n h1 h2:=by rw[hl];exact h.nl n h1 h2
 nn:=kV
 st:=dI
 ss _:=h.ss hp
 t2:=h2
 t3:=h3
 t4:=h4
 qt:=hq
theorem FI.aiV(h:FI q A s)(h1:s.st=1)(hf:oZ q A (eJ s.L)):FI q (kL (r9 A gE) gE (eJ s.L)) (s.at 2):=by
 refine h.move (by omega) (by omega) (λn=>?_) (λn _=>?_) (λn g1 g2 g3=>?_) (λ_=>⟨0,?_⟩) (λhx=>by omega) (λhx=>by omega) λhq=>?_
 ·rw[vm,if_neg (nq n),pZ,if_neg (nq n)]
 ·rw[vm,if_neg (kx n),pZ,if_neg (kx n)]
 ·rw[vm,if_neg (kx n),pZ,if_neg (kx n)]at g3
  have:=(h.nn n g1 g2 g3).1;omega
 ·rw[vm,aC rfl,pZ,aC rfl]
 ·rw[(F0 _ _ _).1]
  unfold oZ at hf;omega
theorem FI.akh(h:FI q A s)(h1:s.st=1):FI q (r9 A gE) (s.at 1):=by
 refine h.move (by omega) (by omega) (λn=>?_) (λn _=>?_) (λn g1 g2 g3=>?_) (λhx=>by omega) (λhx=>by omega) (λhx=>by omega) λhq=>?_
 ·rw[pZ,if_neg (nq n)]
 ·rw[pZ,if_neg (kx n)]
 ·rw[pZ,if_neg (kx n)]at g3
  have:=(h.nn n g1 g2 g3).1;omega
 ·have:=(abR A gE).t
  have:=h.qt hq;omega
theorem FI.aiU(h:FI q A s)(h1:s.st=2):FI q (jU A gE) (s.at 3):=by
 obtain⟨f,hf⟩:=h.t2 h1;refine h.move (by omega) (by omega) (λn=>?_) (λn _=>?_) (λn g1 g2 g3=>?_) (λhx=>by omega) (λ_=>?_) (λhx=>by omega) λhq=>?_
 ·rw[nM,if_neg (nq n)]
 ·rw[nM,if_neg (kx n)]
 ·rw[nM,if_neg (kx n)]at g3
  have:=(h.nn n g1 g2 g3).1;omega
 ·rw[nM,aC rfl,hf];rfl
 ·have:=(uO A gE).t
  have:=h.qt hq;omega
theorem FI.aiT(h:FI q A s)(h1:s.st=3):FI q (E7 A gE (Sn.nm (s.g+1))) (s.at 4):=by
 have hf:=h.t3 h1;have hg:=h.g;have key:=aeg (b:=Sn.nm (s.g+1)) hf aje;refine h.move (by omega) (by omega) (λn=>?_) (λn hn=>?_) (λn g1 g2 g3=>?_) (λhx=>by omega) (λhx=>by omega) (λ_=>?_) λhq=>?_
 ·rw[key,if_neg (nI _ _),if_neg (nq n)]
 ·rw[key,if_neg (λe=>by have:=yi (by omega) (by omega) e;omega),if_neg (kx n)]
 ·by_cases e:n=s.g+1
  ·omega
  ·rw[key,if_neg (λe'=>e (yi g2 (by omega) e')),if_neg (kx n)]at g3
   have:=(h.nn n g1 g2 g3).1;omega
 ·grind
 ·have:=(MT A gE (Sn.nm (s.g+1))).t
  have:=h.qt hq;omega
def jf.next(s:jf):jf:=⟨s.g+1,s.L,[],0,0⟩
theorem jf.akD(s:jf):s.next.L=s.L:=by
 show iy [] (s.L++[])=s.L
 rw[cO,Tt s.asc]
theorem FI.aiS{A':List Af}(h:FI q A s)(h4:s.st=4)(Ag:s.g+1<=900000)(hn:∀k,bS A' (Sn.nm k)=bS (r6 (s.g+1) A) (Sn.nm k))(hl:∀k,bS (r6 (s.g+1) A) (gK k)=none->bS A' (gK k)=none)(ht:iP A'<=iP A):FI q A' s.next:=by
 have Td:∀n,s.g<n->n<=999999->bS A' (gK n)=none:=λn g1 g2=>hl n (by
  rw[wD];split
  ·rfl
  ·exact h.nl n g1 g2)
 exact {
  gp:=h.gl
  gr:=by simp[jf.next]
  g:=Ag
  su:=by simp[jf.next]
  sn:=λ_=>by
   show bS A' (Sn.nm (s.g+1))=some ⟨Sn.nm (s.g+1),eJ s.L,_⟩
   rw[hn,wD,if_neg]
   ·exact h.t4 h4
   ·rintro⟨k,k1,k2,k3,k4⟩
    have:=yi (by omega) k3 k4;omega
  s0:=λhx=>by simp[jf.next]at hx
  lg:=.inl ⟨Td _ (by simp[jf.next]) (by simp only[jf.next];omega),rfl⟩
  nl:=λn g1 g2=>Td n (by simp only[jf.next]at g1;omega) g2
  nn:=λn g1 g2 g3=>by
   simp only[jf.next]at g1;rw[hn,wD]at g3
   split at g3
   ·cases g3
   ·have:=(h.nn n (by omega) g2 g3).2
    omega
  st:=by simp[jf.next]
  ss:=λhx=>absurd hx (by simp[jf.next])
  t2:=λhx=>absurd hx (by simp[jf.next])
  t3:=λhx=>absurd hx (by simp[jf.next])
  t4:=λhx=>absurd hx (by simp[jf.next])
  qt:=λhq=>by
   have:=h.qt hq
   omega}
theorem VX(h:bS A name=none):r9 (kL A name []) name=A:=by
 have h1:=Bo.1 h;rw[OJ h1,r9,aaB]
 simp_all
theorem Z4(h:bS A name=none):Ik A name=4:=by rw[Ik,h];rfl
theorem Z3{a:Af}(h:bS A name=some a):Ik A name=0:=by rw[Ik,h];rfl
theorem Lt(h:FA p bf q nb ns A)(hs:aq mm [p,m])(hk:Sm k A nb ns)(hn:iQ (jR name)=true)(hz:name.size<=1000000)(hq:0<=q/\q<=9223372036854775807)(hqt:0<q->(iP A:Int)<=q)(hf:bS A name=none):
  bi tP 117 [fy bf,.v (.string name)] mm λr m'=>∃bl p',r=[fy bl,.v (.slice none 0 0),i64 0]/\aq m' [blk1 bl (eU bf name 0 0),p',m]/\FA p' bf q nb ns A:=by
 refine A4 ari Tryz.func117 ?_;intro bl Fc;have LK:=hs.new Fc (eU bf name 0 0);refine aP (MW (name:=name) (h.grow (LK.sub)) hk) ?_;rintro _ m1⟨v,p1,rfl,bM,hv⟩;have bM:aq m1 [p1,blk1 bl (eU bf name 0 0),p,m]:=bM.under (a:=[p1]) LK;rw[Z4 hf];refine xY ?_;have bZ:aq m1 [p,blk1 bl (eU bf name 0 0),m]:=bM.drop.fm (List.Perm.swap _ _ _);obtain⟨q1,mQ,dy,oF⟩:=aq.x7 bZ;refine aP (IR (name:=name) (lb:=[]) h dy hk (Lb.nil _ 0).la (by simp) hz hq (by simp)) ?_;rintro _ m2⟨e,p2,A',oK,rfl,eP,h2,hr⟩;conv=>whnf
 rw[I1,if_neg (by simp[hn]),if_neg (by simp only[cW,gO];intro hc;have:=hqt hc.1;omega)]at hr;obtain⟨rfl,rfl,rfl⟩:=hr;have eP:=oF _ _ eP;refine xN ?_;refine aP (bi.frame eP (xW (name:=name) h2)) ?_;rintro _ m3⟨p3,⟨rfl,h3⟩,eD⟩;conv=>whnf
 rw[VX hf]at h3;exact⟨bl,p3,rfl,eD.fm (List.Perm.swap _ _ _),h3⟩
theorem Zf{sf:Nat}{R:List (List Int)}(h:FA p bf q nb ns A)(hs:aq mm [p,m])(hk:Sm k A nb ns)(hR:∀r∈R,Fr.mB r.length=true/\jl r)(hK:K<=(Fr.kP R).length)(hK2:K<=10000000)(hf:bS A name=some ⟨name,z6 ((Fr.kP R).take K),sf⟩):
  bi tP 117 [fy bf,.v (.string name)] mm λr m'=>∃bl v ps pv p',r=[fy bl,.v v,i64 0]/\aq m' [blk1 bl (eU bf name (Fr.fC R K).1 (Fr.fC R K).1),pv,p',m]/\jL pv v ps/\ps.map (·.2)=R.take (Fr.fC R K).1/\FA p' bf q nb (ns+1) (jU (xy A name (Fr.fC R K).2) name):=by
 have OU:jl (Fr.kP R):=Fr.zJ λr hr=>(hR r hr).2;obtain⟨w1,w2,w3⟩:=Fr.zd (l:=R) (k:=K);have w4:=Fr.C5 (l:=R) (k:=K);have w5:=Fr.BE (l:=R) (k:=K);refine A4 ari Tryz.func117 ?_;intro bl Fc;have LK:=hs.new Fc (eU bf name 0 0);refine aP (MW (name:=name) (h.grow (LK.sub)) hk) ?_;rintro _ m1⟨v,p1,rfl,bM,hv⟩;have bM:aq m1 [p1,blk1 bl (eU bf name 0 0),p,m]:=bM.under (a:=[p1]) LK;rw[Z3 hf];rw[hf]at hv;simp only[dZ,jA]at hv;rw[Nm (Sz OU K)]at hv;refine xN ?_;refine xN ?_;have wz:((Fr.kP R).take K).length=K:=by rw[aK];omega
 refine aP (PU (hv.lb.sub (bM.sub (a:=p1))) (Sz OU K) (by omega)) ?_;rintro _ m2⟨v',ps,pv,rfl,bZ,hps,adB⟩;have bZ:aq m2 [pv,p1,blk1 bl (eU bf name 0 0),p,m]:=bZ.under (a:=[pv]) bM;have hrd:=Fr.GK (l:=R) (k:=K) (f:=K+1) (λr hr=>(hR r hr).1) (by omega);rw[wz]at adB⊢;rw[hrd]at adB⊢;dsimp only at adB⊢;refine xN ?_
 have dy:aq m2 [p,pv,blk1 bl (eU bf name 0 0),m]:=(bZ.dV 1).fm (by
  show List.Perm [pv,blk1 bl (eU bf name 0 0),p,m] [p,pv,blk1 bl (eU bf name 0 0),m]
  refine(List.Perm.cons _ (List.Perm.swap _ _ _)).trans ?_
  exact List.Perm.swap _ _ _)
 refine aP (bi.frame dy (aq9 (name:=name) (n:=((Fr.fC R K).2:Nat)) h hk)) ?_;rintro _ m3⟨p2,⟨rfl,h2⟩,eP⟩;have ZH:(z6 ((Fr.kP R).take K)).length=K:=by rw[vL,wz]
 have ec:Xw A name ((Fr.fC R K).2:Nat)=xy A name (Fr.fC R K).2:=by
  rw[Xw,hf];simp only;rw[aC (by rw[ZH];omega),aA]
 rw[ec]at h2;have Fb:Sm k (xy A name (Fr.fC R K).2) nb ns:=⟨λa ha=>(IE A name _).l _ hk.l a ha,by rw[xy,aH];exact hk.n,hk.nb,hk.ns,hk.k⟩;have ava:m3 bl=some (eU bf name 0 0):=eP.sub (a:=blk1 bl (eU bf name 0 0)) (by simp) _ _ (aG ..);refine⟨[.one (.pointer (some ⟨bf,0,none⟩)),.one (.string name)],⟨rfl,rfl,trivial⟩,rfl,⟨_,_,_,ava,λj u hu=>?_⟩,?_⟩
 ·match j,hu with
  |0,hu=>exact hu
  |1,hu=>exact hu
  |j+2,hu=>simp[LB.cz,eB.cells]at hu
 refine aP (bi.frame eP (G0 (name:=name) h2 Fb)) ?_;rintro _ m4⟨p3,⟨rfl,h3⟩,eD⟩;have apu:(bS (xy A name (Fr.fC R K).2) name).isSome=true:=by rw[If,aC rfl,hf];rfl
 rw[aC apu]at h3
 have CU:ps.length=(Fr.fC R K).1:=by
  have:=be List.length adB;rw[aH,aK,gH w5]at this;exact this
 obtain⟨av,cv,rfl⟩:=hps.shape;rw[CU]at hps⊢;have au9:m4 bl=some (eU bf name 0 0):=eD.sub (a:=blk1 bl (eU bf name 0 0)) (by simp) _ _ (aG ..);refine⟨_,_,_,au9,⟨by simp,by simp⟩,?_⟩;refine⟨_,_,_,aD.bg ..,⟨by simp,by simp⟩,?_⟩;have gC:=eD.gu (i:=2) rfl (aG ..) (eU bf name (Fr.fC R K).1 0);rw[cJ]at gC;have iU:=gC.gu (i:=2) rfl (aG ..) (eU bf name (Fr.fC R K).1 (Fr.fC R K).1);rw[cJ]at iU;have k8:aq _ [p3,pv,blk1 bl (eU bf name (Fr.fC R K).1 (Fr.fC R K).1),m]:=iU;refine⟨bl,_,ps,pv,p3,rfl,k8.fm ?_,hps,adB,h3⟩;refine(List.Perm.cons _ (List.Perm.swap _ _ _)).trans ?_;refine(List.Perm.swap _ _ _).trans ?_;exact List.Perm.cons _ (List.Perm.swap _ _ _)
section
variable {m mm p:aD}{bl bf nb ns all cY:Nat}{name:ByteArray}
theorem ac4{vb:Value}{lb:List Int}{A:List Af}{k:Nat}{q:Int}(hs:aq mm [blk1 bl (eU bf name all cY),p,m])(h:FA p bf q nb ns A)(hk:Sm k A nb ns)(hv:La mm vb lb)(hb:jl lb)(hr:Fr.mB lb.length=true)(hl:lb.length<=100000)(hn:iQ (jR name)=true)(hz:name.size<=1000000)(ha:all<=1000000)(hq:0<=q/\q<=9223372036854775807):
  bi tP 141 [fy bl,.v vb] mm λr m'=>∃p',(0<q/\q<(iP A+(Fr.wr lb).length:Nat)/\r=[i64 0,i64 5]/\aq m' [blk1 bl (eU bf name all cY),p',m]/\FA p' bf q nb ns A)\/(¬(0<q/\q<(iP A+(Fr.wr lb).length:Nat))/\r=[i64 ((all+1:Nat):Int),i64 0]/\aq m' [blk1 bl (eU bf name (all+1) cY),p',m]/\FA p' bf q (nb+(Fr.wr lb).length) ns (kL A name (z6 (Fr.wr lb)))):=by
 have hw:=C3 (l:=lb) (by omega)
 have hbw:jl (Fr.wr lb):=by
  have:=Fr.zJ (l:=[lb]) (by simpa using hb);simpa [Fr.kP]using this
 have Fc:mm bl=some (eU bf name all cY):=hs.sub (a:=blk1 bl (eU bf name all cY)) (by simp) _ _ (aG ..);refine A4 awK Tryz.func141 ?_;refine bt (Hw Fc) ?_;refine xN ?_;refine aP (O7 hv hb hr) ?_;rintro _ m1⟨v',pw,rfl,bM,Zs⟩;have bM:aq m1 [pw,blk1 bl (eU bf name all cY),p,m]:=bM.under (a:=[pw]) hs;refine xN ?_;have aqt:=bM.sub (a:=blk1 bl (eU bf name all cY)) (by simp) _ _ (aG ..);refine xM aqt ?_;refine xM aqt ?_
 have bZ:aq m1 [p,pw,blk1 bl (eU bf name all cY),m]:=bM.fm (by
  refine(List.Perm.cons _ (List.Perm.swap _ _ _)).trans ?_
  exact List.Perm.swap _ _ _)
 obtain⟨q1,mQ,dy,oF⟩:=aq.x7 bZ;refine aP (IR (name:=name) (lb:=z6 (Fr.wr lb)) h dy hk (by rw[Nm hbw];exact(Zs.lb.sub (mQ pw (by simp))).la) (Wh hbw) hz hq (by rw[vL];omega)) ?_;rintro _ m2⟨e,p2,A',oK,rfl,eP,h2,jK⟩;conv=>whnf
 rw[I1,if_neg (by simp[hn]),vL]at jK;have eP:aq m2 [p2,pw,blk1 bl (eU bf name all cY),m]:=oF _ _ eP;have eD:aq m2 [p2,blk1 bl (eU bf name all cY),m]:=eP.dV 1;by_cases jH:0<q/\q<(iP A+(Fr.wr lb).length:Nat)
 ·rw[aC jH]at jK
  obtain⟨rfl,rfl,rfl⟩:=jK;refine xY ?_;exact⟨p2,.inl ⟨jH.1,jH.2,rfl,eD.fm (List.Perm.swap _ _ _),h2⟩⟩
 rw[if_neg jH]at jK;obtain⟨rfl,rfl,rfl⟩:=jK;have adU:=eD.sub (a:=blk1 bl (eU bf name all cY)) (by simp) _ _ (aG ..);have gC:=eD.gu (i:=1) rfl (aG ..) (eU bf name (all+1) cY);rw[cJ]at gC;have ew:IntKind.i64.wrap ((all:Int)+1)=((all+1:Nat):Int):=ado (by omega);refine xN ?_;refine xM adU ?_;refine⟨_,_,_,adU,⟨by simp,by simp⟩,?_⟩;refine xM (aD.bg ..) ?_;rw[ew];exact⟨p2,.inr ⟨jH,rfl,gC.fm (List.Perm.swap _ _ _),h2⟩⟩
end
theorem HY{s p:ByteArray}:eN tP 255 [.v (.string s),.v (.string p)] m [.v (.bool (Lib.hasPrefix s.data.toList p.data.toList))]:=by
 refine⟨rQ Tryz.func255 (by kernel_rfl) (by kernel_rfl),λ_ W hW=>?_⟩;exact(Tryz.strings_HasPrefix s p W).mono λe W' ⟨h2,h3⟩=>⟨[.v (.bool (Lib.hasPrefix s.data.toList p.data.toList))],m,h2,by intro x hx;simp at hx;rcases hx with rfl;rfl,⟨rfl,rfl⟩,Bu hW h3⟩
theorem jZ.j8(h:jZ m):cK m:=λW hW=>by
 obtain⟨tp,p,T,fr,h1⟩:=h.syn;exact⟨rfl,hW.lt h1⟩
theorem wj(hg:jZ m)(h2:n<=999999):eN tP 118 [i64 n] m [.v (.string (gK n))]:=by
 obtain⟨p1,p2⟩:=Sn.QO (n:=n) (by omega);refine ub Tryz.func118 ?_;refine bt (LI hg (by omega) (by omega)) ?_;conv=>whnf
 have es:((⟨(Lib.itoa (n:Int)).toArray⟩:ByteArray).size:Int)=((Lib.itoa (n:Int)).length:Int):=rfl;have ew:max (IntKind.i64.wrap (6-((⟨(Lib.itoa (n:Int)).toArray⟩:ByteArray).size:Int))) 0=((6-(Lib.itoa (n:Int)).length:Nat):Int):=by rw[es,wi];omega
 rw[ew];refine bt (Ep hg (s:=⟨#[48]⟩) (c:=6-(Lib.itoa (n:Int)).length) (by rw[show(⟨#[48]⟩:ByteArray).size=1 from rfl];omega) (by omega)) ?_;have er:Lib.repeatL (⟨#[48]⟩:ByteArray).data.toList (6-(Lib.itoa (n:Int)).length)=Lib.repeatL [48] (6-(Lib.itoa (n:Int)).length):=rfl;have hz:=Sn.PQ (6-(Lib.itoa (n:Int)).length);rw[er];generalize Lib.repeatL [48] (6-(Lib.itoa (n:Int)).length)=Z at p2 hz;generalize Lib.itoa (n:Int)=D at p1 p2 hz;refine⟨by rw[lX Z,show(⟨#[108,111,103,45]⟩:ByteArray).size=4 from rfl];omega,?_⟩;have e1:(⟨#[108,111,103,45]⟩:ByteArray)=⟨M6.toArray⟩:=rfl;rw[e1,wg];refine⟨by rw[lX,lX,ax,show M6.length=4 from rfl];omega,?_⟩;refine⟨?_,rfl⟩;rw[wg,gK,<-p2,aX]
abbrev cP(bf g:Nat)(lv:Value)(bl:Nat)(sv:Value):Obj:=.cells #[.pointer (some ⟨bf,0,none⟩),.int .i64 (g:Int),lv,.pointer (some ⟨bl,0,none⟩),sv] 109
def SvP(ps:aD)(bf:Nat)(s:jf)(sv:Value):Prop:=
 (sv= .pointer none/\s.st=0)\/∃(b n:Nat) (v:Value) (pv:aD) (l:List Nat),sv= .pointer (some ⟨b,0,none⟩)/\aq ps [blk1 b (dB bf n v s.st),pv]/\Bs pv v (nc l)/\(∀x∈l,x<256)/\(0<s.st->n=s.g+1/\l=eJ s.L)
def SP(p:aD)(bs bf:Nat)(s:jf):Prop:=∃(bl:Nat) (lv sv:Value) (ps g:aD),aq p [blk1 bs (cP bf s.g lv bl sv),blk1 bl (eU bf (gK s.g) s.R.length s.cY),ps,g]/\lu g lv s.L/\SvP ps bf s sv
structure SR(m:aD)(bs bf:Nat)(s:jf)(bl:Nat)(lv sv:Value):Prop where
 o:m bs=some (cP bf s.g lv bl sv)
 lg:m bl=some (eU bf (gK s.g) s.R.length s.cY)
 l:lu m lv s.L
 sv:(sv= .pointer none/\s.st=0)\/∃(b n:Nat) (v:Value),sv= .pointer (some ⟨b,0,none⟩)/\m b=some (dB bf n v s.st)
section
variable {m:aD}{bs bf bl:Nat}{s:jf}{lv sv:Value}
theorem r7(h:SR m bs bf s bl lv sv):eN tP 53 [fy bs] m [bR true]:=by
 refine ub Tryz.func53 ?_;refine xY ?_;refine xM h.o ?_;exact rR
theorem KM(h:SR m bs bf s bl lv sv):eN tP 12 [fy bs] m [i64 s.R.length]:=by
 refine ub Tryz.func12 ?_;refine xN ?_;refine xM h.o ?_;refine bt (LC h.lg) ?_;exact rR
theorem adz(h:SR m bs bf s bl lv sv):eN tP 96 [fy bs] m [i64 s.st]:=by
 refine ub Tryz.func96 ?_;refine xN ?_;rcases h.sv with⟨rfl,h0⟩|⟨b,n,v,rfl,h1⟩
 ·refine xM h.o ?_
  refine bt (Yt) ?_;exact⟨by rw[h0];rfl,rfl⟩
 ·refine xM h.o ?_
  refine bt (TM h1) ?_;exact rR
theorem TN(h:SR m bs bf s bl lv sv):eN tP 22 [fy bs] m [bR (decide (s.cY=s.R.length))]:=by
 refine A4 c22 Tryz.func22 ?_;refine bt (r7 h) ?_;refine xY ?_;refine xM h.o ?_;refine xM h.o ?_;refine fU (Hr h.lg) ?_;refine bt (LC h.lg) ?_;refine⟨?_,rfl⟩;rw[qO];have:decide ((s.cY:Int)=(s.R.length:Int))=decide (s.cY=s.R.length):=fF.2 (by omega);rw[this]
def sW(s:jf)(k:ByteArray)(c:Ct):Int:=if kZ (jR k)=false then 1 else if dA c.1 c.2=false then 3 else if 0<s.st then 7 else 0
theorem KL(hS:cK m)(h:SR m bs bf s bl lv sv){k:ByteArray}{u:List Int}{a:Option Addr}{c:Nat}{E:List En}(hv:Na m (.slice a E.length c) E)(hI:∀e∈E,CS e)(hk:k.size<=1000000)(hl:E.length<=1000000):
  eN tP 140 [fy bs,.v (.string k),iY u a E.length c] m [i64 (sW s k (u,E))]:=by
 refine ub Tryz.func140 ?_;refine bt (r7 h) ?_;refine xN ?_;refine bt (iB (s:=k) hk) ?_;by_cases h1:kZ (jR k)=true;rotate_left
 ·have h1:kZ (jR k)=false:=by simpa using h1
  rw[h1];refine xY ?_;exact⟨by rw[sW,aC h1],rfl⟩
 rw[h1];refine xN ?_;refine bt (pV (u:=u) hS hv hI hl) ?_;by_cases h2:dA u E=true;rotate_left
 ·have h2:dA u E=false:=by simpa using h2
  rw[h2];refine xY ?_;exact⟨by rw[sW,if_neg (by rw[h1];decide),aC h2],rfl⟩
 rw[h2];refine xN ?_;refine bt (adz h) ?_;apply bI<;>intro h3
 ·have yF:0<s.st:=by have:=ah h3;omega
  exact⟨by rw[sW,if_neg (by rw[h1];decide),if_neg (by rw[h2];decide),aC yF],rfl⟩
 ·have yF:¬ 0<s.st:=by have:=aj h3;omega
  exact⟨by rw[sW,if_neg (by rw[h1];decide),if_neg (by rw[h2];decide),if_neg yF],rfl⟩
theorem abN(s:jf):s.L.length<=s.P.length+s.R.length:=by
 have:=uL [] (s.P++s.R);rw[ax]at this;simpa [jf.L]using this
theorem Db(h:SR m bs bf s bl lv sv){k:ByteArray}(hl:s.L.length<=1000000)(hE:(gh s.L k).2.length<=1000000):
  bi tP 74 [fy bs,.v (.string k)] m λr m'=>∃a c p,r=[iY (gh s.L k).1 a (gh s.L k).2.length c,bR (vj s.L k).isSome]/\aq m' [p,m]/\No p (.slice a (gh s.L k).2.length c) (gh s.L k).2:=by
 refine ub Tryz.func74 ?_;refine xN ?_;refine⟨_,aF h.o rfl,by obtain⟨a,c,e⟩:=h.l.shape;rw[e];rfl,?_⟩;refine aP (G3 (k:=k) h.l hl) ?_;rintro _ m1⟨a,c,rfl,bM,he⟩;generalize gh s.L k=x at*;obtain⟨xu,xE⟩:=x;simp only at he hE;refine aP (l7 (E:=xE) (he.sub bM) (by omega)) ?_;rintro _ m2⟨v',p,rfl,bZ,hp⟩;obtain⟨a',c',rfl⟩:=hp.el.shape;refine⟨a',c',p,by simp,?_,hp⟩;exact(aq.Ci (bZ.fm (List.Perm.swap _ _ _)) bM).fm (List.Perm.swap _ _ _)
end
variable{bl:Nat}{lv sv:Value}
theorem TT(h:SR m bs bf s bl lv sv)(hl:s.L.length<=100000)(hE:∀x∈s.L,x.2.2.length<=100000):
  bi tP 18 [fy bs] m λr m'=>∃v,r=[.v v]/\lu m' v s.L/\cL m m':=by
 obtain⟨R,hR,hK⟩:=h.l;have ho:=h.o;obtain⟨av,cv,rfl⟩:=hR.shape;have hlen:=hK.len;refine ub Tryz.func18 ?_;refine xN ?_;refine xM ho ?_;refine aP (nO hR (by omega)) ?_;rintro _ m1⟨vk,pk,rfl,bM,hpk⟩;obtain⟨ak,ck,rfl⟩:=hpk.el.shape;refine .mk (ι:=Nat) (λi=>R.length-i) (λi mm=>i<=R.length/\∃pk g Ri,aq mm [pk,g]/\cL m g/\Ko pk (.slice ak R.length ck) Ri/\dC g Ri s.L) (λi=>[(3,.c (.v (.slice ak R.length ck))),(13,.c (i64 R.length)),(14,.c (i64 i))]) (λ_=>[]) 0 ⟨by omega,pk,m,R,bM,cL.refl _,hpk,hK⟩ ?_ ?_
 ·exact Cr
 rintro i mm⟨hi,pk,g,Ri,hs,hmg,hp,hKi⟩;have HP:=hKi.len;apply bI<;>intro h
 ·have h':=ah h
  have bH:i<R.length:=by omega
  have DP:i<Ri.length:=by omega
  obtain⟨bl,ol,c2,hh,hg⟩:=hp.el.ea.real DP;injection hh with eK _ fN;subst eK;have hg:=hg i DP;have hx:=hKi.je i DP (by omega);have hEx:=hE _ (aO (show i<s.L.length by omega));have oY:=λx u hj hx=>dW.setCell (u:=u) (x:=x) hp DP (j:=9) hj hx;have jG:=λr (hr:pP g r s.L[i])=>hKi.set (i:=i) hr;have hid:s.L.set i s.L[i]=s.L:=vG _;rw[hid]at jG;generalize s.L[i]=x at*;generalize hr:Ri[i]=r at*;obtain⟨xk,xu,xE⟩:=x;obtain⟨rk,ru,ra,rn,rc⟩:=r;obtain⟨h1,h2,h3,h4⟩:=hx;have zu:=pP.len ⟨h1,h2,h3,h4⟩;simp only at h1 h2 h3 h4 zu hEx;subst h1 h2 zu
  repeat refine xS ?_
  have hc9:gR mm bl (ol+i*10+9)=some (.slice ra xE.length rc):=by
   obtain⟨arr,t,fr,q1,q2⟩:=hg.sub (hs.sub (a:=pk));exact aF q1 (q2 9 _ (by simp[fj,n8]))
  refine xL (hc9) ?_;refine aP (l7 (E:=xE) (h4.sub (hs.sub (a:=g))) (by omega)) ?_;rintro _ m2⟨v2,p2,rfl,bZ,lE⟩;have bZ:aq m2 [p2,pk,g]:=aq.jN (a:=[p2]) bZ hs;obtain⟨a2,c2,rfl⟩:=lE.el.shape;obtain⟨arr,q1,q2,q3⟩:=oY (rk,ru,(a2,xE.length,c2)) (.slice a2 xE.length c2) (by omega) (by simp[fj,n8])
  have dy:aq m2 ([p2,g]++[pk]):=bZ.fm (by
   refine List.Perm.cons _ (List.Perm.swap _ _ _))
  obtain⟨eP,eD⟩:=aq.k9 _ dy;have eP:aq m2 [pk,gY [p2,g]]:=eP.fm (List.Perm.swap _ _ _)
  repeat refine xS ?_
  have hmb:m2 bl=some (.cells arr 81):=eP.sub (a:=pk) (by simp) _ _ q1;refine⟨_,_,_,hmb,⟨by simp only[bK,aA];exact q2,by simp⟩,?_⟩;simp only[bK,aA];refine⟨i+1,⟨by omega,_,_,_,eP.set q1 (.cells (arr.setIfInBounds (ol+i*10+9) (.slice a2 xE.length c2)) 81),hmg.trans (eD.sub),q3,?_⟩,by omega,?_⟩
  ·have hg2:cL g (gY [p2,g]):=eD.sub (by simp)
   have:=(hKi.sub hg2).set (i:=i) (r:=(rk,ru,(a2,xE.length,c2))) (x:=(rk,ru,xE)) ⟨rfl,rfl,h3,lE.ea.sub (eD.sub)⟩;rw[hid]at this;exact this
  ·exact Cr
 ·have h':=aj h
  exact⟨_,rfl,⟨Ri,hp.ea.sub (hs.sub),hKi.sub (hs.sub)⟩,hmg.trans (hs.sub)⟩
def H7(q:Int)(A:List Af)(x:Kd):Prop:=0<q/\q<(iP A+(Fr.wr (nJ x)).length:Nat)
instance (q:Int) (A:List Af) (x:Kd):Decidable (H7 q A x):=by unfold H7;infer_instance
def rq(q:Int)(A:List Af)(s:jf)(x:Kd):Int:=if sW s x.1 x.2≠0 then sW s x.1 x.2 else if H7 q A x then 5 else 0
variable{k:ByteArray}
theorem Ef{c:Ct}(h:sW s k c=0):kZ (jR k)=true/\dA c.1 c.2=true/\s.st=0:=by
 unfold sW at h
 split at h
 ·cases h
 ·rename_i h1
  split at h
  ·cases h
  ·rename_i h2
   split at h
   ·cases h
   ·exact⟨by simpa using h1,by simpa using h2,by omega⟩
variable{m':aD}
theorem akU{o:Obj}(h:m b=some o)(hs:cL m m'):y3 [b] m m':=HG ((hs _ _ h).trans h.symm)
structure aiJ(m' m:aD)(bs bf:Nat)(q:Int)(nb ns:Nat)(A:List Af)(s:jf):Prop where
 ex:∃p pf,aq m' [p,pf,m]/\SP p bs bf s/\FA pf bf q nb ns A
variable{ps pf:aD}
theorem abB{g:aD}(h:aq m' [blk1 bs (cP bf s.g lv bl sv),blk1 bl (eU bf (gK s.g) s.R.length s.cY),ps,g,pf,m])(hk:lu g lv s.L)(W6:SvP ps bf s sv)(hf:FA pf bf q nb ns A):aiJ m' m bs bf q nb ns A s:=by
 have h1:aq m' ([blk1 bs (cP bf s.g lv bl sv),blk1 bl (eU bf (gK s.g) s.R.length s.cY),ps,g]++[pf,m]):=h;obtain⟨h2,h3⟩:=aq.k9 _ h1;exact⟨_,pf,h2,⟨bl,lv,sv,ps,g,h3,hk,W6⟩,hf⟩
variable{u:List Int}
theorem ada{w:List Int}(hu:yZ u)(hw:yZ w):yZ (QL u w):=by
 have key:∀{a b:List Int},yZ a->yZ b->yZ (List.zipWith max a b):=λ{a b} ha hb=>by
  refine⟨by rw[List.length_zipWith,ha.1,hb.1];rfl,λx hx=>?_⟩;obtain⟨i,hi,rfl⟩:=dc hx;rw[List.length_zipWith]at hi;rw[List.getElem_zipWith];have h1:=ha.2 a[i] (aO _);have h2:=hb.2 b[i] (aO _);unfold BC at*;omega
 exact key (key pg hu) hw
theorem xH{x y:Ct}(hx:jg (k,x))(hy:jg (k,y))(h:(nh x y).2=0):jg (k,(nh x y).1):=by
 unfold nh at h⊢
 split at h
 ·cases h
 ·split at h
  ·cases h
  ·split at h
   ·cases h
   ·rename_i h1 h2 h3
    rw[if_neg h1,if_neg h2,if_neg h3];refine⟨ada hx.u hy.u,λe he=>?_,?_⟩
    ·have he:e∈nY (yv x.1 y.1 x.2 y.2):=he
     have:=(List.mem_mergeSort).1 he;rcases aR.1 this with h|h
     ·exact hx.e e (cH.1 h).1
     ·exact hy.e e (cH.1 h).1
    ·show(nY (yv x.1 y.1 x.2 y.2)).length<=1000
     rw[zg];omega
theorem qo{L:List Kd}(h:∀x∈L,jg x)(k:ByteArray):jg (k,gh L k):=by
 cases e:vj L k with
 |none=>rw[gh,e];exact⟨pg,by simp,by simp⟩
 |some c=>
  rw[gh,e];have:=h _ (L6 e);exact⟨this.u,this.e,this.n⟩
def jw(s:jf)(x:Kd):Ct×Int:=nh (gh s.L x.1) x.2
def Hn(q:Int)(A:List Af)(s:jf)(x:Kd):Int:=
 if sW s x.1 x.2≠0 then sW s x.1 x.2 else if (jw s x).2≠0 then(jw s x).2 else if gh s.L x.1=(jw s x).1 then 0 else rq q A s (x.1,(jw s x).1)
def yp(q:Int)(A:List Af)(s:jf)(x:Kd):Bool:=
 decide (sW s x.1 x.2=0)&&decide ((jw s x).2=0)&& !decide (gh s.L x.1=(jw s x).1)&&decide (rq q A s (x.1,(jw s x).1)=0)
def sU(s:jf):Int:=if 0<s.st\/s.cY≠s.R.length then 7 else 0
theorem MB(h:A.Sublist B):iP A<=iP B:=by
 unfold iP
 induction h with
 |slnil=>simp
 |cons a _ ih=>simp only[aZ,List.sum_cons];omega
 |cons_cons a _ ih=>simp only[aZ,List.sum_cons];omega
theorem Pr(h:A.Sublist B){x:ByteArray}(hx:bS B x=none):bS A x=none:=
 Bo.2 λa ha=>Bo.1 hx a (h.subset ha)
theorem agN(h:A.Sublist B)(hn:Eg B):Eg A:=λa ha=>hn a (h.subset ha)
theorem abA{k:Nat}(h:A.Sublist B)(hk:Sm k B nb ns):Sm k A nb ns:=⟨λa ha=>hk.l a (h.subset ha),bq h.length_le hk.n,hk.nb,hk.ns,hk.k⟩
theorem aku(k:Nat):Lib.hasPrefix (Sn.nm k).data.toList M6=false:=by
 have:(Sn.nm k).data.toList=Sn.pre++Sn.uc 6 k:=by simp[Sn.nm]
 rw[this];simp[Lib.hasPrefix,Sn.pre,M6,List.isPrefixOf]
variable{i:Nat}
theorem So.aoE{ss:List ByteArray}(h:So m v ss)(hi:i<ss.length):∃b o c,v= .slice (some ⟨b,o,none⟩) ss.length c/\∀j (hj:j<ss.length),gR m b (o+j)=some (.string ss[j]):=h.sl.real hi
variable{kk:Nat}
theorem TL{g:aD}{gg all cY:Nat}(hg:jZ m)(hs:aq mm [blk1 bs (cP bf gg lv bl sv),blk1 bl (eU bf (gK gg) all cY),ps,g,pf,m])(U2:lv.oneCell'=true)(W6:sv.oneCell'=true)(hf:FA pf bf q nb ns A)(hk:Sm kk A nb ns)(hgg:gg+1<=999999)(hq:0<=q/\q<=9223372036854775807)(hqt:0<q->(iP A:Int)<=q)(xr:bS A (gK (gg+1))=none):
  bi tP 176 [fy bs] mm λr m'=>r=[]/\∃OY pf' A',aq m' [blk1 bs (cP bf (gg+1) lv OY sv),blk1 OY (eU bf (gK (gg+1)) 0 0),ps,g,pf',m]/\FA pf' bf q nb ns A'/\A'.Sublist A/\∀k,bS A' (Sn.nm k)=bS A (Sn.nm k):=by
 have yB:mm bs=some (cP bf gg lv bl sv):=hs.get (a:=blk1 bs _) (by simp) (aG ..);have ew:IntKind.i64.wrap ((gg:Int)+1)=((gg+1:Nat):Int):=ado (by omega);refine A4 awD Tryz.func176 ?_;refine xM yB ?_;conv=>whnf
 rw[ew];refine⟨_,_,_,yB,⟨by simp,by simp⟩,?_⟩;have bM:=hs.set (aG ..) (cP bf (gg+1) lv bl sv);rw[cJ]at bM;have adS:(mm.set bs (cP bf (gg+1) lv bl sv)) bs=some (cP bf (gg+1) lv bl sv):=aD.bg ..;refine xM adS ?_;refine aP (WH (hf.grow (bM.sub (a:=pf))) hk) ?_;rintro _ m2⟨vN,pN,rfl,bZ,hN⟩;have bZ:aq m2 [pN,blk1 bs (cP bf (gg+1) lv bl sv),blk1 bl (eU bf (gK gg) all cY),ps,g,pf,m]:=aq.jN (a:=[pN]) bZ bM;have hNl:(ut (A.map (·.name))).length<=1000:=by rw[(zf _).length_eq,aH];exact bq hk.n hk.k
 generalize ut (A.map (·.name))=N at hN hNl;obtain⟨aN,cN,rfl⟩:=hN.sl.shape;refine .mk (ι:=Nat) (λi=>N.length-i) (λi m'=>i<=N.length/\∃pf' A',aq m' [pN,blk1 bs (cP bf (gg+1) lv bl sv),blk1 bl (eU bf (gK gg) all cY),ps,g,pf',m]/\FA pf' bf q nb ns A'/\A'.Sublist A/\∀k,bS A' (Sn.nm k)=bS A (Sn.nm k)) (λi=>[(0,.c (fy bs)),(15,.c (.v (.slice aN N.length cN))),(16,.c (i64 N.length)),(17,.c (i64 i))]) (λ_=>[]) 0 ⟨by omega,pf,A,bZ,hf,CZ _,λ_=>rfl⟩ ?_ ?_
 ·exact Cr
 rintro i m3⟨hi,pf',A',dy,yz,iH,Tb⟩;have ZJ:m3 bs=some (cP bf (gg+1) lv bl sv):=dy.get (a:=blk1 bs (cP bf (gg+1) lv bl sv)) (by simp) (aG ..);have hg3:jZ m3:=hg.sub (dy.sub (a:=m));apply bI<;>intro h
 ·have h':=ah h
  have bH:i<N.length:=by omega
  obtain⟨b2,ol,c',hh,js⟩:=(hN.sub (dy.sub (a:=pN))).aoE bH;injection hh with eK _ fN;subst eK;have js:=js i bH;generalize N[i]=x at js
  repeat refine xS ?_
  refine⟨_,by simp only[bK,aA];exact js,rfl,?_⟩;refine bt (HY (s:=x) (p:=⟨#[108,111,103,45]⟩)) ?_;apply bI<;>intro adA
  ·have ga:∀k,Sn.nm k≠x:=λk e=>by
    have h1:=aku k;rw[e]at h1;have adA:Lib.hasPrefix x.data.toList M6=true:=adA;rw[h1]at adA;cases adA
   refine xM ZJ ?_;refine bt (wj hg3 (n:=gg+1) hgg) ?_;apply bI<;>intro hl
   ·refine xM ZJ ?_
    have eP:=dy.pick (i:=5) rfl;obtain⟨q4,Zx,eD,oF⟩:=aq.part eP;refine aP (bi.frame eD (xW (name:=x) yz)) ?_;rintro _ m6⟨Va,⟨rfl,U9⟩,gC⟩;have iU:=oF _ _ gC;have iU:aq m6 [Va,pN,blk1 bs (cP bf (gg+1) lv bl sv),blk1 bl (eU bf (gK gg) all cY),ps,g,m]:=iU;refine⟨i+1,⟨by omega,Va,r9 A' x,iU.fm (by classical exact dP.2 λx=>by simp only[fE,List.count_nil];ac_rfl),U9,List.filter_sublist.trans iH,λk=>by rw[pZ,if_neg (ga k)];exact Tb k⟩,by omega,?_⟩;exact Cr
   ·refine⟨i+1,⟨by omega,pf',A',dy,yz,iH,Tb⟩,by omega,?_⟩
    exact Cr
  ·refine⟨i+1,⟨by omega,pf',A',dy,yz,iH,Tb⟩,by omega,?_⟩
   exact Cr
 ·have h':=aj h
  refine xM ZJ ?_;refine xM ZJ ?_;refine fU (wj hg3 (n:=gg+1) hgg) ?_;have wA:aq m3 ([pN,blk1 bs (cP bf (gg+1) lv bl sv),blk1 bl (eU bf (gK gg) all cY),ps,g,m]++[pf']):=dy.fm (by classical exact dP.2 λx=>by simp only[fE,List.count_nil,db,bV];ac_rfl);obtain⟨h5,h6⟩:=aq.k9 _ wA;have eD:=h5.fm (List.Perm.swap _ _ _);refine aP (Lt (name:=gK (gg+1)) yz eD (abA iH hk) UG (by rw[u2];omega) hq (λh=>by have:=MB iH;have:=hqt h;omega) (Pr iH xr)) ?_;rintro _ m6⟨OY,Va,rfl,gC,U9⟩;have iU:aq m6 [blk1 OY (eU bf (gK (gg+1)) 0 0),Va,pN,blk1 bs (cP bf (gg+1) lv bl sv),blk1 bl (eU bf (gK gg) all cY),ps,g,m]:=aq.jN (a:=[blk1 OY (eU bf (gK (gg+1)) 0 0),Va]) gC h6;have alG:m6 bs=some (cP bf (gg+1) lv bl sv):=iU.get (a:=blk1 bs (cP bf (gg+1) lv bl sv)) (by simp) (aG ..);refine⟨_,_,_,alG,⟨by simp,by simp⟩,?_⟩;have k8:=iU.gu (i:=3) rfl (aG ..) (cP bf (gg+1) lv OY sv);rw[cJ]at k8;have zv:aq _ [blk1 OY (eU bf (gK (gg+1)) 0 0),Va,pN,blk1 bs (cP bf (gg+1) lv OY sv),blk1 bl (eU bf (gK gg) all cY),ps,g,m]:=k8;have nr:aq _ [blk1 OY (eU bf (gK (gg+1)) 0 0),Va,blk1 bs (cP bf (gg+1) lv OY sv),ps,g,m]:=(zv.dV 2).dV 3;exact⟨rfl,OY,Va,A',nr.fm (by classical exact dP.2 λx=>by simp only[fE,List.count_nil];ac_rfl),U9,iH,Tb⟩
structure Gr(A A':List Af)(b:Nat):Prop where
 l:∀c,b<=c->(∀a∈A,a.l.length<=c)->∀a∈A',a.l.length<=c
 n:A'.length<=A.length+1
 nm:Eg A->Eg A'
theorem Gr.refl(A:List Af)(b:Nat):Gr A A b:=⟨λ_ _ h=>h,by omega,id⟩
theorem Gr.sub{A':List Af}(h:A'.Sublist A):Gr A A' b:=⟨λ_ _ h1 a ha=>h1 a (h.subset ha),bq h.length_le (by omega),agN h⟩
theorem GI(A:List Af)(n:ByteArray):(r9 A n).Sublist A:=List.filter_sublist
theorem Gr.app:Gr A (kL (r9 A gE) gE l) l.length:=by
 have h1:∀b∈r9 A gE,b.name≠gE:=λb hb=>by simpa using(cH.1 hb).2
 rw[OJ h1];refine⟨λc hc h a ha=>?_,?_,λhn a ha=>?_⟩
 ·rcases aR.1 ha with ha|ha
  ·exact h a ((GI A gE).subset ha)
  grind
 ·rw[ax]
  have:=(GI A gE).length_le;simp;omega
 ·rcases aR.1 ha with ha|ha
  ·exact hn a ((GI A gE).subset ha)
  ·rw[aL.1 ha];exact(by decide:gE.size<=1000000)
theorem WF{g:Af->Af}(hg:∀a∈A,(g a).name=a.name)(h:Eg A):Eg (A.map g):=λa ha=>by
 obtain⟨x,hx,rfl⟩:=aV.1 ha;rw[hg x hx];exact h x hx
theorem Hg(n:ByteArray)(h:Eg A):Eg (jU A n):=WF (λa _=>by split<;>rfl) h
theorem agO(n:ByteArray)(k:Nat)(h:Eg A):Eg (xy A n k):=WF (λa _=>by split<;>rfl) h
variable{n:ByteArray}
theorem Gr.akd:Gr A (jU A n) b:=⟨λc _ h=>(uO A n).l c h,by rw[jU,aH];omega,Hg n⟩
theorem WE{x:Af}{b:ByteArray}(hb:b.size<=1000000):∀{A:List Af},Eg A->Eg (mS x b A)
 |[],_=>λa ha=>by rw[aL.1 ha];exact hb
 |y::A,h=>by
  simp only[mS];split
  ·intro a ha
   rcases aU.1 ha with rfl|ha
   ·exact hb
   ·exact h a (by simp[ha])
  ·intro a ha
   rcases aU.1 ha with rfl|ha
   ·exact h _ (by simp)
   ·exact WE hb (λz hz=>h z (by simp[hz])) a ha
theorem Gr.ren{m:ByteArray}(hm:m.size<=1000000):Gr A (E7 A n m) b:=by
 refine⟨λc _ h=>(MT A n m).l c h,(MT A n m).n,λhn=>?_⟩;unfold E7;split
 ·exact hn
 ·split
  ·exact WE hm (hn.rm n)
  ·exact hn
theorem KE(n:Nat):∀(L:List Nat) (A:List Af),(lP n A L).Sublist A
 |[],A=>CZ A
 |k::L,A=>by
  have ih:=KE n L (if k<n then r9 A (Sn.nm k)else A);have e:lP n A (k::L)=lP n (if k<n then r9 A (Sn.nm k)else A) L:=by simp[lP]
  rw[e];refine ih.trans ?_;split
  ·exact GI _ _
  ·exact CZ _
def qf(q:Int)(A:List Af)(s:jf):jf:=
 if s.st=0 then s else if s.st=1 then(if oZ q A (eJ s.L)then s.at 2 else s.at 1)else if s.st=2 then s.at 3 else if s.st=3 then s.at 4 else s.next
def tI(q:Int)(A:List Af)(s:jf):Int×Int:=
 if s.st=0 then(0,4)else if s.st=1 then(if oZ q A (eJ s.L)then(2,0)else(0,5))else if s.st=2 then(3,0)else if s.st=3 then(4,0)else(0,0)
theorem hLb:tt.get 100=some ⟨.slice 5,1,24,[.one (.slice none 0 0)],false⟩:=by rfl
variable{l:List Value}
theorem agt{e:TypeId}(h:mf m e 1 v l):fg v=l.length:=by
 rcases h with⟨rfl,rfl⟩|⟨b,o,c,n,arr,rfl,_,h2,_⟩
 ·rfl
 ·simp[fg,h2]
theorem acT(h:gq m 1 v l):fg v=l.length:=by
 rcases h with⟨c,rfl,rfl⟩|⟨b,o,c,n,arr,t,fr,rfl,_,h2,_⟩
 ·rfl
 ·simp[fg,h2]
theorem Hz(h:gq m 1 v l):v.oneCell'=true:=by
 rcases h with⟨c,rfl,rfl⟩|⟨b,o,c,n,arr,t,fr,rfl,_⟩<;>rfl
theorem aau{ls:List aD}{x:Value}{news:List Value}(hs:aq m ls)(hi:ls[i]?=some p) (hv:mf p 100 1 v l) (hg:gq m 1 x news) (hb:l.length+news.length<=10000000):
  bF tP (.builtin .append [198,198]) [.v v,.v x] m λr m'=>∃v' p',r=[.v v']/\aq m' (ls.set i p')/\mf p' 100 1 v' (l++news):=by
 have e1:=agt hv;have e2:=acT hg;refine(kC (news:=news) eR ZN rfl hLb ZN (by rfl) hs hi hv (.inl ⟨_,rfl,.inl hg⟩) (by rw[e1,e2];simp only;omega) (by rw[e1,e2];omega)).mono λr m' ⟨v',p',q1,q2,q3⟩=>⟨v',p',q1,q2,q3.ux⟩
theorem Vj{n:Nat}(hn:n<=1000000):
  bi tP 197 [.v (.slice none 0 0),.v (.int .i64 n)] m λr m'=>∃v p,r=[.v v]/\aq m' [p,m]/\mf p 100 1 v []:=by
 refine ub Tryz.func197 ?_;refine⟨λh=>absurd h (by(simp;try omega)),λ_=>?_⟩;refine .mk _ (sR eR ZN rfl) ?_;rintro _ _⟨rfl,rfl⟩;conv=>whnf
 have e:IntKind.i64.wrap ((n:Int)-IntKind.i64.wrap (((0:Nat):Int)-((0:Nat):Int)))=(n:Int):=by rw[wi (n:=((0:Nat):Int)-((0:Nat):Int)) (by omega) (by omega),wi];omega
 rw[e];apply bI<;>intro h
 ·have h':=ah h
  refine .mk _ (sR eR ZN rfl) ?_;rintro _ _⟨rfl,rfl⟩
  repeat refine xS ?_
  refine .mk _ (aaK (n:=0) (c:=0) (a:=none) (l:=[]) eR ZN rfl hLb hI rfl (by decide) rfl (.inl ⟨0,rfl,rfl⟩) (by omega) (by omega) (by simp only;omega) (by omega)) ?_;rintro _ _⟨b,C,hb,hC,rfl,rfl⟩
  repeat refine xS ?_
  intro o' h1 h2;obtain rfl:o'=0:=by have:=h1 (by omega);simpa using this
  refine⟨_,blk1 b _,rfl,(aq.one m).new hb _,.inr ⟨b,0,C,0,_,rfl,aG ..,rfl,lF _,?_,by intro j u hu;simp at hu,by simp⟩⟩;simp only[oQ,kr,dM,cW,LB.cz,eB.cells,ax,bd];omega
 ·have h':=aj h
  exact⟨_,iI,rfl,(aq.one m).cA,.inl ⟨rfl,rfl⟩⟩
structure LsL(m:aD)(v:Value)(ps:List (Value×List Value)):Prop where
 ky:gq m 1 v (ps.map (·.1))
 la:∀p∈ps,gq m 1 p.1 p.2
variable{ps:List (Value×List Value)}
theorem LsL.shape(h:LsL m v ps):∃a c,v= .slice a ps.length c:=by
 rcases h.ky with⟨c,rfl,e⟩|⟨b,o,c,n,arr,t,fr,rfl,_,e,_⟩
 ·have:ps.length=0:=by simpa using be List.length e
  exact⟨none,c,by rw[this]⟩
 ·have:ps.length=n:=by simpa using e
  exact⟨_,c,by rw[this]⟩
theorem LsL.real(h:LsL m v ps)(hi:i<ps.length):∃b o c,v= .slice (some ⟨b,o,none⟩) ps.length c/\∀(i:Nat) (hi:i<ps.length),gR m b (o+i)=some ps[i].1:=by
 rcases h.ky with⟨c,rfl,e⟩|⟨b,o,c,n,arr,t,fr,rfl,g1,e,_,g2,_⟩
 ·have:ps.length=0:=by simpa using be List.length e
  omega
 ·have:ps.length=n:=by simpa using e
  exact⟨b,o,c,by rw[this],λj hj=>aF g1 (g2 j _ (by simp[hj]))⟩
def tz(ps:List (Value×List Value)):List Value:=(ps.map (·.2)).flatten
theorem zK(h:i<ps.length):tz (ps.take i)++ps[i].2=tz (ps.take (i+1)):=by
 rw[au h,tz,tz,bD,gk];simp
theorem XB(i:Nat):(tz (ps.take i)).length<=(tz ps).length:=by
 have e:tz ps=tz (ps.take i)++tz (ps.drop i):=by
  rw[tz,tz,tz,<-gk,<-bD,dL]
 rw[e,ax];omega
theorem Hy(h:gq m 1 v l):∃a c,v= .slice a l.length c:=by
 rcases h with⟨c,rfl,rfl⟩|⟨b,o,c,n,arr,t,fr,rfl,_,h2,_⟩
 ·exact⟨_,_,rfl⟩
 ·have:l.length=n:=by simpa using h2
  exact⟨_,c,by rw[this]⟩
theorem Ow(h:LsL m v ps)(hb:(tz ps).length<=1000000)(hn:ps.length<=1000000):
  bi tP 119 [.v v] m λr m'=>∃v' p,r=[.v v']/\aq m' [p,m]/\mf p 100 1 v' (tz ps):=by
 obtain⟨a,c,rfl⟩:=h.shape;refine ub Tryz.func119 ?_;refine .mk (ι:=Nat) (λi=>ps.length-i) (λi mm=>i<=ps.length/\mm=m) (λi=>[(0,.c (.v (.slice a ps.length c))),(3,.c (i64 (tz (ps.take i)).length)),(9,.c (.v (.slice a ps.length c))),(10,.c (i64 ps.length)),(11,.c (i64 i))]) (λ_=>[]) 0 ⟨by omega,rfl⟩ ?_ ?_
 ·exact Cr
 rintro i mm⟨hi,he⟩;subst mm;apply bI<;>intro h1
 ·have jc:=ah h1
  have bH:i<ps.length:=by omega
  obtain⟨b,o,c',e,nT⟩:=h.real bH;cases e;have AG:=h.la ps[i] (by simp);obtain⟨ai,ci,hvi⟩:=Hy AG;have hc:=nT i bH;rw[hvi]at hc;have hle:=XB (ps:=ps) (i+1);rw[<-zK bH,ax]at hle
  repeat refine xS ?_
  refine⟨_,hc,rfl,?_⟩;conv=>whnf
  have e3:IntKind.i64.wrap (((tz (ps.take i)).length:Int)+(ps[i].2.length:Int))=((tz (ps.take (i+1))).length:Int):=by
   rw[<-zK bH,ax,wi];omega
  rw[e3];refine⟨λh=>absurd h (by(simp;try omega)),λ_=>?_⟩;refine⟨i+1,⟨by omega,rfl⟩,by omega,?_⟩;exact Cr
 ·have jc:=aj h1
  obtain rfl:i=ps.length:=by omega
  rw[aJ];refine aP (Vj (n:=(tz ps).length) (by omega)) ?_;rintro _ m2⟨v2,p2,rfl,bZ,lD⟩;refine .mk (ι:=Nat×Value) (λi=>ps.length-i.1) (λ⟨i,x⟩ mm=>i<=ps.length/\∃p,aq mm [p,m]/\mf p 100 1 x (tz (ps.take i))) (λ⟨i,x⟩=>[(6,.c (.v x)),(25,.c (.v (.slice a ps.length c))),(26,.c (i64 ps.length)),(27,.c (i64 i))]) (λ_=>[]) (0,v2) ⟨by omega,p2,bZ,by simpa [tz]using lD⟩ ?_ ?_
  ·exact Cr
  rintro⟨i,x⟩ mm ⟨hi,p,hs,hx⟩;apply bI<;>intro h2
  ·have iD:=ah h2
   have bH:i<ps.length:=by omega
   obtain⟨b,o,c',e,nT⟩:=h.real bH;cases e;have AG:=h.la ps[i] (by simp);have hle:=XB (ps:=ps) (i+1);rw[<-zK bH,ax]at hle;have hc:gR mm b (o+i)=some ps[i].1:=nH (nT i bH) (hs.at (i:=1) rfl)
   repeat refine xS ?_
   refine⟨_,hc,Hz AG,?_⟩;refine .mk _ (aau (i:=0) hs rfl hx (AG.sub (hs.at (i:=1) rfl)) (by omega)) ?_;rintro _ m3⟨v3,p3,rfl,dy,tX⟩;refine⟨(i+1,v3),⟨by omega,p3,dy,?_⟩,by simp only;omega,?_⟩
   ·rw[zK bH]at tX;exact tX
   ·exact Cr
  ·have iD:=aj h2
   obtain rfl:i=ps.length:=by omega
   rw[aJ]at hx;exact⟨x,p,rfl,hs,hx⟩
theorem aeO{x y:Value}:bF tP (.buildSlice 306 2 [0,1]) [.v x,.v y] m λr m'=>∃b,m b=none/\r=[.v (.slice (some ⟨b,0,none⟩) 2 2)]/\m'=m.set b (.cells #[x,y] 198):=
 dm (n:=2) eR (show tt.get 306=some ⟨.slice 198,1,24,[.one (.slice none 0 0)],false⟩ by rfl) rfl ZN rfl rfl (by simp[CV.cs]) (by simp) (by simp)
theorem Gr.cut{k:Nat}:Gr A (jU (xy A n k) n) b:=⟨λc _ h=>(uO _ n).l c ((IE A n k).l c h),by rw[jU,aH,xy,aH];omega,λh=>Hg n (agO n k h)⟩
theorem Qu(hs:aq mm [pf,m])(hf:FA pf bf q nb ns A)(hk:Sm kk A nb ns)(hc:CI q A g P R K)(hgb:g<=900000)(hq:0<=q/\q<=9223372036854775807)(hK:K<=10000000):
  bi tP 117 [fy bf,.v (.string (gK g))] mm λr m'=>∃bl v ps pv pf' kc A',r=[fy bl,.v v,i64 0]/\aq m' [blk1 bl (eU bf (gK g) (dN R K) (dN R K)),pv,pf',m]/\jL pv v ps/\ps.map (·.2)=kI (R.take (dN R K))/\FA pf' bf q nb kc A'/\FI q A' (kb g P R K)/\kc<=ns+1/\Gr A A' 0/\(bS A (gK g)=none->A'=A):=by
 cases Xf:bS A (gK g)with
 |none=>
  refine(Lt hf hs hk UG (by rw[u2];omega) hq hc.qt Xf).mono λr m' ⟨bl,pf',h1,h2,h3⟩=>?_
  have hR:R=[]/\K=0:=by
   rcases hc.lg with⟨_,h1,h2⟩|⟨sf,h1,_⟩
   ·exact⟨h1,h2⟩
   ·rw[Xf]at h1;cases h1
  have hw:dN R K=0:=by
   have:=uN R K;rw[hR.1]at this⊢;simpa using this
  refine⟨bl,_,[],iI,pf',ns,A,h1,?_,⟨.inl ⟨_,rfl,rfl⟩,by simp⟩,by rw[hw];rfl,h3,hc.agz Xf hgb,by omega,.refl _ _,λ_=>rfl⟩;rw[hw];exact(h2.cA).fm (List.Perm.swap _ _ _)
 |some a=>
  rcases hc.lg with⟨h1,_⟩|⟨sf,h1,h2⟩
  ·rw[Xf]at h1;cases h1
  ·refine(Zf (R:=kI R) hf hs hk (zi hc.gr) h2 hK h1).mono λr m' ⟨bl,v,ps,pv,pf',e1,e2,e3,e4,e5⟩=>?_
   exact⟨bl,v,ps,pv,pf',ns+1,_,e1,e2,e3,by rw[e4,KP];rfl,e5,hc.agy h1 hgb,by omega,Gr.cut,λh=>by cases h⟩
theorem TP(hg:jZ m)(hs:aq mm [pf,m])(hf:FA pf bf q nb ns A)(hk:Sm kk A nb ns)(hn:Eg A)(hc:CI q A g P R K)(hgb:g<=900000)(hq:0<=q/\q<=9223372036854775807)(hK:K<=10000000)(hP:P.length+R.length<=20000):
  bi tP 59 [fy bf] mm λr m'=>∃bs kc A',r=[fy bs,i64 0]/\aiJ m' m bs bf q nb kc A' (kb g P R K)/\FI q A' (kb g P R K)/\kc<=ns+1/\Gr A A' 0/\(bS A (gK g)=none->A'=A):=by
 have wq:cL m mm:=hs.sub (by simp);have hwl:=uN R K;refine A4 c59 Tryz.func59 ?_;refine aP (akQ (hg.sub wq) (hf.grow (hs.sub (a:=pf))) hk hn) ?_;rintro _ m1⟨v1,ps1,p1,rfl,bM,wz,he1⟩;conv=>whnf
 rw[hc.load]at he1⊢;simp only at he1⊢;have bM:aq m1 [p1,pf,m]:=aq.jN (a:=[p1]) bM hs;refine xN ?_;refine bt (wj (hg.sub (bM.sub (a:=m))) (n:=g) (by omega)) ?_;have bZ:aq m1 ([p1,m]++[pf]):=bM.fm (by classical exact dP.2 λx=>by simp only[fE,List.count_nil,db,bV];ac_rfl);obtain⟨dy,eP⟩:=aq.k9 _ bZ;refine aP (Qu (dy.fm (List.Perm.swap _ _ _)) hf hk hc hgb hq hK) ?_;rintro _ m2⟨bl,v2,ps2,p2,pf',kc,A',rfl,eD,Td,he2,yz,HT,NQ,Xe,adw⟩;have eD:aq m2 [blk1 bl (eU bf (gK g) (dN R K) (dN R K)),p2,pf',p1,m]:=aq.jN (a:=[blk1 bl (eU bf (gK g) (dN R K) (dN R K)),p2,pf']) eD eP;have oL:kb g P R K=⟨g,P,R.take (dN R K),dN R K,0⟩:=rfl;refine xN ?_;intro bs yB;have gC:=eD.new yB (cP bf g (.slice none 0 0) bl (.pointer none));refine .mk _ (aeO) ?_;rintro _ _⟨b6,Xl,rfl,rfl⟩;have iU:=gC.new Xl (.cells #[v1,v2] 198);have mQ:=iU.sub (a:=p1);have rO:=iU.sub (a:=p2);have Ve:tz [(v1,ps1.map (·.1)),(v2,ps2.map (·.1))]=(ps1++ps2).map (·.1):=by simp[tz]
 have aAz:ps1.length=P.length:=by have:=be List.length he1;simpa [kI]using this
 have ahv:ps2.length=dN R K:=by
  have:=be List.length he2;simp only[kI,aH,aK]at this;omega
 refine aP (Ow (ps:=[(v1,ps1.map (·.1)),(v2,ps2.map (·.1))]) ⟨.inr ⟨b6,0,2,2,_,_,_,rfl,iU.get (a:=blk1 b6 (.cells #[v1,v2] 198)) (by simp) (aG ..),rfl,aW _,λj u hu=>by simpa using hu,λu hu=>by simp at hu;rcases hu with rfl|rfl;exact Hz wz.ky;exact Hz Td.ky⟩,λp hp=>by simp at hp;rcases hp with rfl|rfl;exact wz.ky.sub mQ;exact Td.ky.sub rO⟩ (by rw[Ve,aH,ax];omega) (by simp)) ?_;rintro _ m4⟨v3,p3,rfl,k8,tX⟩;conv=>whnf
 rw[Ve]at tX;have k8:aq m4 [p3,blk1 b6 (.cells #[v1,v2] 198),blk1 bs (cP bf g (.slice none 0 0) bl (.pointer none)),blk1 bl (eU bf (gK g) (dN R K) (dN R K)),p2,pf',p1,m]:=aq.jN (a:=[p3]) k8 iU
 have zv:aq m4 ([p3,blk1 bl (eU bf (gK g) (dN R K) (dN R K)),p2,pf',p1,m]++[blk1 bs (cP bf g (.slice none 0 0) bl (.pointer none))]):=(k8.dV 1).fm (by
  show List.Perm [p3,blk1 bs (cP bf g (.slice none 0 0) bl (.pointer none)),blk1 bl (eU bf (gK g) (dN R K) (dN R K)),p2,pf',p1,m] _
  classical exact dP.2 λx=>by simp only[fE,List.count_nil,db,bV];ac_rfl)
 obtain⟨nr,u7⟩:=aq.k9 _ zv;have auy:cK (gY [p3,blk1 bl (eU bf (gK g) (dN R K) (dN R K)),p2,pf',p1,m]):=hg.j8.sub (u7.sub (a:=m));have hpm:cL p3 (gY [p3,blk1 bl (eU bf (gK g) (dN R K) (dN R K)),p2,pf',p1,m]):=u7.sub (by simp);have hxs:(ps1++ps2).map (·.2)=kI (P++R.take (dN R K)):=by rw[bD,he1,he2,xX]
 have hgx:∀x∈P++R.take (dN R K),ki x:=λx hx=>(aR.1 hx).elim (hc.gp x) λh=>hc.gr x (bX h);have auA:∀p∈ps1++ps2,La (gY [p3,blk1 bl (eU bf (gK g) (dN R K) (dN R K)),p2,pf',p1,m]) p.1 p.2:=λp hp=>(aR.1 hp).elim (λh=>(wz.la p h).sub (u7.sub)) λh=>(Td.la p h).sub (u7.sub);have hlen:(ps1++ps2).length<=20000:=by rw[ax];omega
 have hlx:(P++R.take (dN R K)).length=(ps1++ps2).length:=by have:=be List.length hxs;simp only[kI,aH]at this;exact this.symm
 have hL:(kb g P R K).L=iy [] (P++R.take (dN R K)):=rfl;generalize hX:P++R.take (dN R K)=X at*;generalize ps1++ps2=ps at*;obtain⟨a3,c3,rfl⟩:=Hy tX.ky;rw[aH]at tX⊢;generalize yy:[p3,blk1 bl (eU bf (gK g) (dN R K) (dN R K)),p2,pf',p1,m]=lr at*;refine .mk (ι:=Nat) (λi=>ps.length-i) (λi m'=>i<=ps.length/\∃lv g',aq m' [blk1 bs (cP bf g lv bl (.pointer none)),g',gY lr]/\lu g' lv (iy [] (X.take i))) (λi=>[(9,.c (fy bs)),(42,.c (.v (.slice a3 ps.length c3))),(43,.c (i64 ps.length)),(44,.c (i64 i))]) (λ_=>[]) 0 ⟨by omega,.slice none 0 0,iI,(nr.cA).fm (by classical exact dP.2 λx=>by simp only[fE,List.count_nil];ac_rfl),lu.nil _⟩ ?_ ?_
 ·exact Cr
 rintro i m5⟨hi,lv,g',ht,hk5⟩;apply bI<;>intro h
 ·have h':=ah h
  have bH:i<ps.length:=by omega
  have Q0:cL (gY lr) m5:=ht.sub (by simp)
  obtain⟨b2,o2,oY⟩:∃b2 o2,a3=some ⟨b2,o2,none⟩/\gR m5 b2 (o2+i)=some ps[i].1:=by
   rcases tX with⟨e,e2⟩|⟨b,o,c,n,arr,e,g1,g2,g3,g4,g5,g6⟩
   ·have:ps.length=0:=by simpa using be List.length e2
    omega
   ·cases e
    exact⟨b,o,rfl,aF (Q0 _ _ (hpm _ _ g1)) (g5 i _ (by simp[bH]))⟩
  obtain⟨rfl,oY⟩:=oY;have alm:=auA ps[i] (aO bH)
  have Xk:ps[i].2=nJ X[i]:=by
   have:=be (λl:List (List Int)=>l[i]?) hxs;simp only[kI,cj,az bH,az (show i<X.length by omega),dZ,aM]at this;exact this
  have JS:=hgx X[i] (aO _)
  have dI:iy [] (X.take (i+1))=iz (iy [] (X.take i)) X[i].1 X[i].2:=by
   rw[au (by omega),F7]
  generalize X[i]=x at*;generalize ps[i]=pi at*;obtain⟨pv,pb⟩:=pi;simp only at oY alm Xk;subst Xk;have Xd:=JS.len
  repeat refine xS ?_
  refine⟨_,by simp only[bK,aA];exact oY,alm.one,?_⟩;refine aP (Js (auy.sub Q0) (alm.sub Q0) (FL x) (by omega)) ?_;rintro _ m6⟨y,ya,yc,py,hy,rfl,Fa,hya,hyu,hyo⟩;conv=>whnf
  rw[T6 JS.k JS.u JS.r]at hy⊢;simp only at hy;subst hy;obtain⟨yk,yu,yE⟩:=y;simp only at hya hyu hyo dI JS;have Fa:aq m6 [py,blk1 bs (cP bf g lv bl (.pointer none)),g',gY lr]:=aq.jN (a:=[py]) Fa ht;have alG:m6 bs=some (cP bf g lv bl (.pointer none)):=Fa.get (a:=blk1 bs (cP bf g lv bl (.pointer none))) (by simp) (aG ..);refine xN ?_;refine⟨_,aF alG rfl,by obtain⟨_,_,e⟩:=hk5.shape;rw[e];rfl,?_⟩
  have atH:(iy [] (X.take i)).length<=100000:=by
   have:=uL [] (X.take i);rw[aK]at this;simp only[cW]at this;omega
  have hnE:=pj JS.r;obtain⟨q6,Zw,JI,oF⟩:=aq.part (Fa.pick (i:=2) rfl);refine aP (GS (k:=yk) (u:=yu) (E:=yE) JI hk5 (hya.sub (Fa.sub (a:=py))) hyu.1 atH (by simp only at hnE;omega)) ?_;rintro _ m7⟨Qt,g2,rfl,W5,hk6⟩;have W4:aq m7 [g2,py,blk1 bs (cP bf g lv bl (.pointer none)),gY lr]:=oF _ _ W5;have au4:m7 bs=some (cP bf g lv bl (.pointer none)):=W4.get (a:=blk1 bs (cP bf g lv bl (.pointer none))) (by simp) (aG ..);refine⟨_,_,_,au4,⟨by simp,by simp⟩,?_⟩;have W3:=(W4.dV 1).gu (i:=1) rfl (aG ..) (cP bf g Qt bl (.pointer none));rw[cJ]at W3;have W3:aq _ [g2,blk1 bs (cP bf g Qt bl (.pointer none)),gY lr]:=W3;refine⟨i+1,⟨by omega,Qt,g2,W3.fm (List.Perm.swap _ _ _),by rw[dI];exact hk6⟩,by omega,?_⟩;exact Cr
 ·have h':=aj h
  obtain rfl:i=ps.length:=by omega
  rw[<-hlx,aJ]at hk5;subst yy;have JI:aq m5 ([blk1 bs (cP bf g lv bl (.pointer none)),g']++[p3,blk1 bl (eU bf (gK g) (dN R K) (dN R K)),p2,pf',p1,m]):=aq.jN (a:=[blk1 bs (cP bf g lv bl (.pointer none)),g']) ht u7;have W5:aq m5 [p3,p2,p1,blk1 bs (cP bf g lv bl (.pointer none)),g',blk1 bl (eU bf (gK g) (dN R K) (dN R K)),pf',m]:=JI.fm (by classical exact dP.2 λx=>by simp only[fE,List.count_nil,db,bV];ac_rfl);have W4:=(W5.drop.drop.drop).cA;have hwR:(R.take (dN R K)).length=dN R K:=by rw[aK];omega
  refine⟨bs,kc,A',rfl,abB (s:=kb g P R K) (ps:=iI) (g:=g') (pf:=pf') (bl:=bl) (lv:=lv) (sv:=.pointer none) ?_ (by rw[hL];exact hk5) (.inl ⟨rfl,rfl⟩) yz,HT,NQ,Xe,adw⟩
  show aq m5 [blk1 bs (cP bf g lv bl (.pointer none)),blk1 bl (eU bf (gK g) (R.take (dN R K)).length (dN R K)),iI,g',pf',m]
  rw[hwR];exact W4.fm (by classical exact dP.2 λx=>by simp only[fE,List.count_nil];ac_rfl)
theorem Yn(s:RS):(oU s).1.2.length<=400:=by
 unfold oU;simp only;split
 ·simp
 ·rename_i h
  have h0:(Av s).2=0:=by simpa using h
  unfold Av ef at h0
  split at h0
  ·cases h0
  ·rename_i h1
   have:dA (uS s).1 (wS s).1=true:=by
    cases hr:dA (uS s).1 (wS s).1 with
    |true=>rfl
    |false=>exact absurd ⟨h0,hr⟩ h1
   exact pj this
theorem Yp(l:List Int):(AR l).size=l.length:=by
 rw[<-ByteArray.size_data,<-cq,AR];simp
theorem YO{s:RS}(hb:jl s.1):(kM 20 s).1.length<=20:=by
 have h:=ij (dG:=20) (s:=s) hb ⟨by decide,by decide⟩;have e:kM 20 s=fL (cZ 20 s).1.toNat (cZ 20 s).2:=rfl;rw[e];exact bq rK (by omega)
theorem aq.sK{a b:aD}{l:List aD}(h:aq m (a::b::l)):∃j,cL a j/\cL b j/\aq m (j::l):=by
 have hd:=h.dj;refine⟨ig a b,λx o hx=>by simp only[ig,hx],λx o hx=>?_,h.jo⟩;rcases hd x with h1|h1
 ·simp only[ig,h1,hx]
 ·rw[h1]at hx;cases hx
structure aiL(x:Kd):Prop where
 a:jg x
 (n:x.2.2.length<=400)
 (k:x.1.size<=20)
variable{l:List Int}
theorem MX(hS:cK m)(hv:La m v l)(hb:jl l)(hl:l.length<=100000000):
  bi tP 310 [.v v] m λr m'=>∃v' p,r=[.v v',i64 (lT l).2]/\aq m' [p,m]/\lu p v' (lT l).1/\∀x∈(lT l).1,aiL x:=by
 have hF:lT l=if Ir (E9 l).2≠0\/cX (E9 l).1=false then([],3)else((E9 l).1,0):=rfl
 have hD:E9 l=JC (cZ 2000 (l,0)).1.toNat [] (cZ 2000 (l,0)).2:=rfl;refine A4 awc Tryz.func310 ?_;refine aP (zy hv hb hl) ?_;rintro _ mm⟨bp,q,rfl,hs,hr⟩;have hn:=ij (dG:=2000) hr.xA ⟨by decide,by decide⟩;refine aP (bi.frame hs (j9 (dG:=2000) hr ⟨by decide,by decide⟩)) ?_;rintro _ mm⟨q,⟨rfl,hr,_⟩,hs⟩;generalize cZ 2000 (l,0)=ns at*;obtain⟨n,s1⟩:=ns;simp only at hn hr hD;obtain⟨k,rfl⟩:∃k:Nat,n=(k:Int):=⟨n.toNat,by omega⟩;rw[aA]at hD;have hk:k<=2000:=by omega
 generalize E9 l=dd at*;generalize lT l=ff at*;refine .mk (ι:=Nat×Option Addr×Nat×List Rk) (λi=>k-i.1) (λ⟨i,a,c,R⟩ mm=>i<=k/\∃p g q L si,aq mm [p,g,q,m]/\Ko p (.slice a R.length c) R/\dC g R L/\Rd q bp si/\dd=JC (k-i) L si/\(∀x∈L,aiL x)/\L.length<=i) (λ⟨i,a,c,R⟩=>[(4,.c (cx bp)),(5,.c (.v (.slice a R.length c))),(9,.c (i64 k)),(10,.c (i64 i))]) (λ_=>[]) (0,none,0,[]) ⟨by omega,iI,iI,q,[],s1,hs.cA.cA,Ko.nil _,dC.nil _,hr,hD,by simp,by simp⟩ ?_ ?_
 ·exact Cr
 rintro⟨i,a,c,R⟩ mm ⟨hi,p,g,q,L,si,hs,hp,hK,hr,Rj,hG,hL⟩;refine⟨λh=>?a1,λh=>?a2⟩
 case' a1=>
  have h':=ah h;have bH:i<k:=by omega
  refine bt (iX (hr.mono (hs.sub))) ?_;refine⟨λh2=>?b1,λh2=>?b3⟩
 case b3=>
  have iD:si.2=0:=by simpa using h2
  have hd2:dd=JC (k-(i+1)) (L++[(HJ si).1]) (HJ si).2:=by
   rw[Rj,show k-i=(k-(i+1))+1 by omega,JC,if_neg (by rw[iD];decide)]
  have ox:HJ si=((AR (kM 20 si).1,(oU (kM 20 si).2).1),(oU (kM 20 si).2).2):=rfl;have htl:=YO hr.xA;refine aP ((KD (dG:=20) hr ⟨by decide,by decide⟩).at hs (i:=2) rfl) ?_;rintro _ m2⟨q2,⟨vt,pt,q,rfl,bZ,hbt,jK⟩,dy⟩
  try refine⟨λ_ h=>(by cases h),?_⟩
  have dy:aq m2 [pt,q,p,g,m]:=dy.Vn (i:=2) rfl bZ;generalize kM 20 si=t at*;obtain⟨tb,ts⟩:=t;simp only at hbt jK htl ox;have Ac:=Yn ts;rcases hbt with⟨rfl,Bh⟩|⟨b',o',c',n',CH,rfl,g1,g2,g3,g4,g5,g6⟩
  case' inl=>
   have Bh:tb=[]:=zW.1 Bh;subst Bh;conv=>whnf
   obtain⟨AS,Q1⟩:∃AS,AS=ByteArray.empty:=⟨_,rfl⟩;rw[<-Q1];have Q1:AS=AR []:=Q1
  case' inr=>
   have OS:tb.length=n':=by
    have hbc:(bc tb).length=tb.length:=aH _;omega
   subst OS;refine .inr ⟨tb,rfl,_,_,rfl,⟨_,_,_,dy.sub (a:=pt) (by simp) _ _ g1,g5⟩,?_⟩;obtain⟨AS,Q1⟩:∃AS,AS=tH tb:=⟨_,rfl⟩;rw[<-Q1];rw[Wp]at Q1;have Fb:=dy.sub (a:=pt) (by simp) _ _ g1
  all_goals
   obtain⟨fb,yy,eP,oF⟩:=(dy.ir [1,0,2,3,4]).fb;refine aP (AZ (hS.sub (yy m (by simp))) eP jK) ?_;rintro _ m3⟨x,a',c',q3,p3,hx,rfl,eD,wo,hE,hu,ez⟩;have gC:aq m3 [p3,q3,pt,p,g,m]:=oF _ [p3,q3] eD
   first|refine⟨HG ((gC.sub (a:=pt) (by simp) _ _ g1).trans Fb.symm),?_⟩|refine⟨λ_ h=>(by cases h),?_⟩
   conv=>whnf
   rw[<-hx]at ox Ac;obtain⟨xu,xE⟩:=x;simp only at hE hu ez Ac ox⊢;have hz:List.take 0 (List.replicate 8 (0:Int))++(xu++List.drop (0+8) (List.replicate 8 0))=xu:=by simp
   refine .mk _ (FX (k:=AS) (u:=xu) (s:=(a',xE.length,c')) hu.1) ?_;rintro _ _⟨b5,mo,rfl,rfl⟩
   first|refine⟨yt (gC.sub (a:=pt) (by simp) _ _ g1) (aD.bT _ mo),?_⟩|skip
   refine .mk _ (aca (i:=3) gC rfl mo hp (by have:=hK.len;omega)) ?_;rintro _ m4⟨v',p',rfl,iU,tZ⟩
   first|refine⟨HG ((iU.sub (a:=pt) (by simp) _ _ g1).trans (aD.bT _ mo _ _ (gC.sub (a:=pt) (by simp) _ _ g1)).symm),?_⟩|skip
   try refine⟨λ_ h=>(by cases h),?_⟩
   obtain⟨a2,c2,rfl⟩:=tZ.el.shape;obtain⟨j,LR,Re,k8⟩:=aq.sK (iU.ir [0,4,3,1,5]);rw[ox,<-Q1]at hd2;refine⟨(i+1,a2,c2,R++[(AS,xu,a',xE.length,c')]),⟨by omega,p',j,q3,L++[(AS,xu,xE)],_,k8.ir [1,0,2,3],tZ,(hK.sub Re).append (dC.one ⟨rfl,rfl,hu.1,hE.sub LR⟩),wo,hd2,?_,by simp;omega⟩,by simp only;omega,?_⟩
   ·intro y hy
    rcases aR.1 hy with hy|hy
    ·exact hG y hy
    ·rw[aL.1 hy]
     exact⟨⟨hu,ez,by simp only;omega⟩,Ac,by simp only;rw[Q1,Yp];exact htl⟩
   ·exact Cr
 case' b1=>
  have iD:si.2≠0:=by simpa using h2
  have hdn:dd=(L,si):=by
   rw[Rj,show k-i=(k-(i+1))+1 by omega,JC,aC iD]
 case' a2=>
  have h':=aj h;obtain rfl:i=k:=by omega
  have hdn:dd=(L,si):=by rw[Rj,kF];rfl
 all_goals
  have hky:lu mm (.slice a R.length c) L:=⟨R,(hp.el.sub (hs.sub)).ea,hK.sub (hs.sub)⟩;rw[hdn]at hF;simp only at hF;refine bt (yM (hr.mono (hs.sub))) ?_;have hen:(if si.2≠0 then si.2 else if si.1=[]then 0 else 2)=Ir si:=rfl;rw[hen];apply bI<;>intro h3
  ·have yF:Ir si≠0:=by simpa using h3
   rw[aC (.inl yF)]at hF;exact⟨_,iI,by rw[hF],(hs.ir [3]).cA,by rw[hF];exact lu.nil _,by rw[hF];simp⟩
  ·have yF:¬Ir si≠0:=by simpa using h3
   refine aP (iC (hS.sub (hs.sub)) hky (λx hx=>(hG x hx).a) (by omega)) ?_;rintro _ m4⟨rfl,B8⟩;by_cases jK:cX L=true
   ·rw[jK]
    refine xN ?_;conv=>whnf
    rw[if_neg (by rw[jK];simp;simpa using yF)]at hF;obtain⟨j,LR,Re,k8⟩:=aq.sK (hs.grow B8);exact⟨_,j,by rw[hF],k8.ir [0,2],by rw[hF];exact⟨R,(hp.el.sub LR).ea,hK.sub Re⟩,by rw[hF];exact hG⟩
   ·have jK:cX L=false:=by simpa using jK
    rw[jK];refine xY ?_;conv=>whnf
    rw[aC (.inr jK)]at hF;exact⟨_,iI,by rw[hF],((hs.ir [3]).grow B8).cA,by rw[hF];exact lu.nil _,by rw[hF];simp⟩
def SQ(p q:aD)(bs bf:Nat)(s:jf):Prop:=∃(bl:Nat) (lv sv:Value) (ps:aD),aq p [blk1 bs (cP bf s.g lv bl sv),blk1 bl (eU bf (gK s.g) s.R.length s.cY),ps]/\lu q lv s.L/\SvP ps bf s sv
theorem SQ.sub{q q':aD}(h:SQ p q bs bf s)(hs:cL q q'):SQ p q' bs bf s:=by
 obtain⟨bl,lv,sv,ps,h1,h2,h3⟩:=h;exact⟨bl,lv,sv,ps,h1,h2.sub hs,h3⟩
theorem SQ.lU{q:aD}(h:SQ p q bs bf s)(hs:cL p m)(hq:cL q m):∃bl lv sv,SR m bs bf s bl lv sv:=by
 obtain⟨bl,lv,sv,ps,h1,h2,h3⟩:=h;refine⟨bl,lv,sv,hs _ _ (h1.get (a:=blk1 bs _) (by simp) (aG ..)),hs _ _ (h1.get (a:=blk1 bl _) (by simp) (aG ..)),h2.sub hq,?_⟩;rcases h3 with h|⟨b,n,v,pv,l,e1,e2,_⟩
 ·exact .inl h
 ·exact .inr ⟨b,n,v,e1,hs _ _ (h1.get (a:=ps) (by simp) (e2.get (a:=blk1 b _) (by simp) (aG ..)))⟩
structure oJ(m' q0:aD)(bs bf:Nat)(q:Int)(nb ns:Nat)(A:List Af)(s:jf):Prop where
 ex:∃p pf q1,aq m' [p,pf,q1]/\cL q0 q1/\SQ p q1 bs bf s/\FA pf bf q nb ns A
theorem oJ.lB{mq:aD}(h:oJ m' mq bs bf q nb ns A s)(hs:cL m mq):oJ m' m bs bf q nb ns A s:=by
 obtain⟨p,pf,q1,h1,h2,h3,h4⟩:=h.ex;exact⟨p,pf,q1,h1,hs.trans h2,h3,h4⟩
theorem sD{q1 ps:aD}(h:aq m' [blk1 bs (cP bf s.g lv bl sv),blk1 bl (eU bf (gK s.g) s.R.length s.cY),ps,pf,q1])(hm:cL m q1)(hk:lu q1 lv s.L)(W6:SvP ps bf s sv)(hf:FA pf bf q nb ns A):oJ m' m bs bf q nb ns A s:=by
 have h1:aq m' ([blk1 bs (cP bf s.g lv bl sv),blk1 bl (eU bf (gK s.g) s.R.length s.cY),ps]++[pf,q1]):=h;obtain⟨h2,h3⟩:=aq.k9 _ h1;exact⟨_,pf,q1,h2,hm,⟨bl,lv,sv,ps,h3,hk,W6⟩,hf⟩
theorem Cf(hs:aq mm [p,pf,m])(hp:SQ p m bs bf s):∃bl lv sv ps,aq mm [blk1 bs (cP bf s.g lv bl sv),blk1 bl (eU bf (gK s.g) s.R.length s.cY),ps,pf,m]/\lu m lv s.L/\SvP ps bf s sv:=by
 obtain⟨bl,lv,sv,ps,Ta,DO,W6⟩:=hp;refine⟨bl,lv,sv,ps,?_,DO,W6⟩;exact aq.tQ hs Ta
theorem AT{a:Option Addr}{c:Nat}{E:List En}(hg:jZ m)(hs:aq mm [p,pf,m])(hp:SQ p m bs bf s)(hf:FA pf bf q nb ns A)(hk:Sm kk A nb ns)(hv:Na m (.slice a E.length c) E)(hx:jg (k,(u,E)))(EM:k.size<=1000000)(hq:0<=q/\q<=9223372036854775807)(hR:s.R.length<=100000)(hL:s.L.length<=100000):
  bi tP 76 [fy bs,.v (.string k),iY u a E.length c] mm λr m'=>
   (rq q A s (k,(u,E))≠0/\r=[i64 0,i64 (rq q A s (k,(u,E)))]/\oJ m' m bs bf q nb ns A s)\/(rq q A s (k,(u,E))=0/\r=[i64 ((s.R.length+1:Nat):Int),i64 0]/\oJ m' m bs bf q (nb+(Fr.wr (nJ (k,(u,E)))).length) ns (kL A (gK s.g) (z6 (Fr.wr (nJ (k,(u,E)))))) (s.put (k,(u,E)))):=by
 have ga:E.length<=1000:=hx.n;obtain⟨bl,lv,sv,AF⟩:=hp.lU (hs.sub (a:=p)) (hs.sub (a:=m));have hmS:cK mm:=hg.j8.sub (hs.sub);have hvm:=hv.sub (hs.sub (a:=m));refine A4 c76 Tryz.func76 ?_;refine bt (KL hmS AF (u:=u) hvm hx.e EM (by omega)) ?_;apply bI<;>intro h
 ·have h0:sW s k (u,E)≠0:=by simpa using h
  have e:rq q A s (k,(u,E))=sW s k (u,E):=by unfold rq;rw[aC h0]
  rw[e];exact .inl ⟨h0,rfl,⟨p,pf,m,hs,cL.refl _,hp,hf⟩⟩
 have h0:sW s k (u,E)=0:=by simpa using h
 have ahu:rq q A s (k,(u,E))=if H7 q A (k,(u,E))then 5 else 0:=by unfold rq;rw[if_neg (by simp only;omega)]
 rw[ahu];obtain⟨k1,k2,k3⟩:=Ef h0;have JR:ki (k,(u,E)):=⟨k1,hx.u,k2⟩;have Xd:=JR.len;have hwl:=C3 (l:=nJ (k,(u,E))) (by omega);obtain⟨bl,lv,sv,ps,cM,DO,W6⟩:=Cf hs hp;have yB:mm bs=some (cP bf s.g lv bl sv):=cM.get (a:=blk1 bs _) (by simp) (aG ..);refine xM yB ?_;refine aP (Er (x:=(k,(u,E))) hmS hvm hx EM) ?_;rintro _ m1⟨vr,pr,rfl,bM,hbr⟩;have ajF:=aq.jN (a:=[pr]) bM cM;refine⟨akU yB (bM.sub),?_⟩;have h1:=(ajF.pick (i:=4) rfl).pick (i:=3) rfl;obtain⟨q1,mQ,h2,oF⟩:=aq.ai6 h1;refine aP (ac4 (name:=gK s.g) h2 hf hk (hbr.lb.la.sub (ajF.sub (a:=pr))) (FL _) JR.isr (by omega) UG (by rw[u2];omega) (by omega) hq) ?_;rintro _ m2⟨pf',u9⟩
 try refine⟨λ_ h=>(by cases h),?_⟩
 rcases u9 with⟨q1',q2',rfl,h3,yz⟩|⟨q1',rfl,h3,yz⟩
 ·have LU:H7 q A (k,(u,E)):=⟨q1',q2'⟩
  rw[aC LU];have h4:=oF _ _ _ h3;refine xY ?_;refine .inl ⟨by simp,rfl,sD (ps:=ps) (pf:=pf') (bl:=bl) (lv:=lv) (sv:=sv) ?_ (cL.refl _) DO W6 yz⟩;have h5:aq m2 [blk1 bl (eU bf (gK s.g) s.R.length s.cY),pf',blk1 bs (cP bf s.g lv bl sv),ps,m]:=h4.dV 2;exact h5.fm (by classical exact dP.2 λx=>by simp only[fE,List.count_nil];ac_rfl)
 ·have LU:¬H7 q A (k,(u,E)):=q1'
  rw[if_neg LU];have h4:=oF _ _ _ h3;have adR:m2 bs=some (cP bf s.g lv bl sv):=h4.get (a:=blk1 bs (cP bf s.g lv bl sv)) (by simp) (aG ..);refine xN ?_;refine⟨_,aF adR rfl,by obtain⟨_,_,e⟩:=DO.shape;rw[e];rfl,?_⟩;have h5:aq m2 (m::[blk1 bl (eU bf (gK s.g) (s.R.length+1) s.cY),pf',pr,blk1 bs (cP bf s.g lv bl sv),ps]):=h4.pick (i:=5) rfl;obtain⟨q2,rO,h6,arm⟩:=aq.part h5;refine aP (x4 (k:=k) (u:=u) h6 DO (hv.sub (h4.sub (a:=m))) hx.u.1 hL (by omega)) ?_;rintro _ m3⟨Qt,g',rfl,h7,hk7,hgg⟩;have h8:=arm _ _ h7;have ZJ:m3 bs=some (cP bf s.g lv bl sv):=h8.get (a:=blk1 bs (cP bf s.g lv bl sv)) (by simp) (aG ..);refine⟨_,_,_,ZJ,⟨by simp,by simp⟩,?_⟩;have h9:=h8.gu (i:=4) rfl (aG ..) (cP bf s.g Qt bl sv);rw[cJ]at h9;refine .inr ⟨rfl,rfl,sD (ps:=ps) (q1:=g') (pf:=pf') (bl:=bl) (lv:=Qt) (sv:=sv) ?_ hgg ?_ ?_ yz⟩
  ·have h10:aq _ [g',blk1 bl (eU bf (gK s.g) (s.R.length+1) s.cY),pf',pr,blk1 bs (cP bf s.g Qt bl sv),ps]:=h9
   have h11:aq _ [g',blk1 bl (eU bf (gK s.g) (s.R.length+1) s.cY),pf',blk1 bs (cP bf s.g Qt bl sv),ps]:=h10.dV 3;have e:(s.put (k,(u,E))).R.length=s.R.length+1:=by simp[jf.put]
   rw[e]
   show aq _ [blk1 bs (cP bf s.g Qt bl sv),blk1 bl (eU bf (gK s.g) (s.R.length+1) s.cY),ps,pf',g']
   exact h11.fm (by classical exact dP.2 λx=>by simp only[fE,List.count_nil];ac_rfl)
  ·rw[jf.ai3];exact hk7
  ·rcases W6 with hh|⟨b,n,v,pv,l,g1,g2,g3,g4,_⟩
   ·exact .inl hh
   ·exact .inr ⟨b,n,v,pv,l,g1,g2,g3,g4,λhh=>by have hh:0<s.st:=hh;omega⟩
theorem MI{a:Option Addr}{c:Nat}{E:List En}(hg:jZ m)(hs:aq mm [p,pf,m])(hp:SQ p m bs bf s)(hf:FA pf bf q nb ns A)(hk:Sm kk A nb ns)(hv:Na m (.slice a E.length c) E)(hx:jg (k,(u,E)))(EM:k.size<=1000000)(hq:0<=q/\q<=9223372036854775807)(hR:s.R.length<=100000)(hL:s.L.length<=100000)(hA:∀x∈s.L,jg x):
  bi tP 93 [fy bs,.v (.string k),iY u a E.length c] mm λr m'=>
   r=[bR (yp q A s (k,(u,E))),i64 (Hn q A s (k,(u,E)))]/\if yp q A s (k,(u,E))then oJ m' m bs bf q (nb+(Fr.wr (nJ (k,(jw s (k,(u,E))).1))).length) ns (kL A (gK s.g) (z6 (Fr.wr (nJ (k,(jw s (k,(u,E))).1))))) (s.put (k,(jw s (k,(u,E))).1))else oJ m' m bs bf q nb ns A s:=by
 have ga:E.length<=1000:=hx.n;obtain⟨bl,lv,sv,AF⟩:=hp.lU (hs.sub (a:=p)) (hs.sub (a:=m));have hmS:cK mm:=hg.j8.sub (hs.sub);have hvm:=hv.sub (hs.sub (a:=m));have JR:=qo hA k;have hC:jw s (k,(u,E))=nh (gh s.L k) (u,E):=rfl;have hE:Hn q A s (k,(u,E))=if sW s k (u,E)≠0 then sW s k (u,E)else if (jw s (k,(u,E))).2≠0 then(jw s (k,(u,E))).2 else if gh s.L k=(jw s (k,(u,E))).1 then 0 else rq q A s (k,(jw s (k,(u,E))).1):=rfl
 have hB:yp q A s (k,(u,E))=(decide (sW s k (u,E)=0)&&decide ((jw s (k,(u,E))).2=0)&& !decide (gh s.L k=(jw s (k,(u,E))).1)&&decide (rq q A s (k,(jw s (k,(u,E))).1)=0)):=rfl;generalize Hn q A s (k,(u,E))=me at*;generalize yp q A s (k,(u,E))=mb at*;generalize jw s (k,(u,E))=bQ at*;have aov:mb=false->oJ mm m bs bf q nb ns A s->(if mb=true then oJ mm m bs bf q (nb+(Fr.wr (nJ (k,bQ.1))).length) ns (kL A (gK s.g) (z6 (Fr.wr (nJ (k,bQ.1))))) (s.put (k,bQ.1))else oJ mm m bs bf q nb ns A s):=λh h2=>by rw[if_neg (by rw[h];decide)];exact h2
 refine ub Tryz.func93 ?_;refine bt (KL hmS AF (u:=u) hvm hx.e EM (by omega)) ?_;apply bI<;>intro h
 ·have h0:sW s k (u,E)≠0:=by simpa using h
  rw[aC h0]at hE;rw[aY h0]at hB;have hB:mb=false:=by rw[hB];rfl
  exact⟨by rw[hE,hB],aov hB ⟨p,pf,m,hs,cL.refl _,hp,hf⟩⟩
 have h0:sW s k (u,E)=0:=by simpa using h
 rw[if_neg (by simp[h0])]at hE;rw[bB h0,bj]at hB;refine aP (Db AF (k:=k) (by omega) (by have:=JR.n;simp only at this;omega)) ?_;rintro _ m1⟨a1,c1,p1,rfl,bM,lZ⟩;have bM:aq m1 [p1,p,pf,m]:=aq.jN (a:=[p1]) bM hs;generalize gh s.L k=was at*;obtain⟨wu,wE⟩:=was;have hwn:wE.length<=1000:=JR.n;simp only at lZ⊢;refine aP (Pk (u:=wu) (w:=u) (hg.j8.sub (bM.sub (a:=m))) JR.u hx.u (lZ.ea.sub (bM.sub (a:=p1))) (hv.sub (bM.sub (a:=m))) JR.e hx.e hwn ga) ?_;rintro _ m2⟨x,e,a2,c2,p2,Be,he2,rfl,bZ,lD⟩;have bZ:aq m2 [p2,p1,p,pf,m]:=aq.jN (a:=[p2]) bZ bM;rw[<-hC]at Be he2;have adX:bQ.2=0->jg (k,bQ.1):=λh=>by rw[hC]at h⊢;exact xH JR hx h
 obtain⟨nx,ne⟩:=bQ;simp only at Be he2 adX hE hB aov⊢;subst Be he2;obtain⟨xu,xE⟩:=x;simp only at lD⊢;have aiW:mb=false->(if mb=true then oJ m2 m bs bf q (nb+(Fr.wr (nJ (k,(xu,xE)))).length) ns (kL A (gK s.g) (z6 (Fr.wr (nJ (k,(xu,xE)))))) (s.put (k,(xu,xE)))else oJ m2 m bs bf q nb ns A s):=λh=>by rw[if_neg (by rw[h];decide)];exact⟨p,pf,m,bZ.drop.drop,cL.refl _,hp,hf⟩
 apply bI<;>intro h
 ·have h1:e≠0:=by simpa using h
  rw[aC h1]at hE;have hB:mb=false:=by rw[hB,aY h1];rfl
  exact⟨by rw[hE,hB],aiW hB⟩
 have h1:e=0:=by simpa using h
 subst h1;have adX:=adX rfl;rw[if_neg (by decide)]at hE;rw[bB rfl,bj]at hB;have hxn:xE.length<=1000:=adX.n;refine bt (vQ (u:=wu) (w:=xu) (lZ.ea.sub (bZ.sub (a:=p1))) (lD.sub (bZ.sub (a:=p2))) (by omega)) ?_
 have HU:(decide (wu=xu)&&decide (wE=xE))=decide ((wu,wE)=(xu,xE)):=by
  rw[nV];simp
 rw[HU];by_cases h2:(wu,wE)=(xu,xE)
 ·rw[bB h2]
  rw[aC h2]at hE;have hB:mb=false:=by rw[hB,bB h2];rfl
  refine xY ?_;exact⟨by rw[hE,hB],aiW hB⟩
 rw[aY h2];rw[if_neg h2]at hE;rw[aY h2,Bool.not_false,bj]at hB;refine xN ?_;obtain⟨ma,ZM,ZL,dy⟩:=aq.sK bZ;have dy:aq m2 [ma,m,p,pf]:=dy.ir [0,3,1,2];obtain⟨mq,kW,wq,eP⟩:=aq.sK dy;have eP:aq m2 [p,pf,mq]:=eP.ir [1,2,0];refine aP (AT (k:=k) (u:=xu) (hg.sub wq) eP (hp.sub wq) hf hk (lD.sub (ZM.trans kW)) adX EM hq hR hL) ?_;rintro _ m5 u9;rcases u9 with⟨e1,rfl,hL5⟩|⟨e1,rfl,hL5⟩
 ·have hB:mb=false:=by rw[hB,aY e1]
  refine⟨?_,by rw[if_neg (by rw[hB];decide)];exact hL5.lB wq⟩;rw[hE,hB,qO,aY e1]
 ·have hB:mb=true:=by rw[hB,bB e1]
  refine⟨?_,by rw[aC hB];exact hL5.lB wq⟩;rw[hE,hB,e1];rfl
theorem Pu(hs:aq mm [p,pf,m])(hp:SQ p m bs bf s)(hf:FA pf bf q nb ns A)(hk:Sm kk A nb ns):
  bi tP 42 [fy bs] mm λr m'=>r=[i64 0]/\∃kc,kc<=ns+1/\oJ m' m bs bf q nb kc (jU A (gK s.g)) s.Gj:=by
 obtain⟨bl,lv,sv,AF⟩:=hp.lU (hs.sub (a:=p)) (hs.sub (a:=m));obtain⟨bl,lv,sv,ps,cM,DO,W6⟩:=Cf hs hp;have yB:mm bs=some (cP bf s.g lv bl sv):=cM.get (a:=blk1 bs _) (by simp) (aG ..);refine ub Tryz.func42 ?_;refine bt (r7 AF) ?_;refine xN ?_;refine xM yB ?_;have h1:=(cM.pick (i:=3) rfl).pick (i:=2) rfl;obtain⟨q1,mQ,h2,oF⟩:=aq.ai6 h1;refine aP (UD h2 hf hk) ?_;rintro _ m2⟨pf',kc,rfl,h3,yz,NQ⟩;have h4:=oF _ _ _ h3;refine⟨rfl,kc,NQ,sD (ps:=ps) (pf:=pf') (bl:=bl) (lv:=lv) (sv:=sv) ?_ (cL.refl _) DO ?_ yz⟩
 ·have h5:aq m2 [blk1 bl (eU bf (gK s.g) s.R.length s.R.length),pf',blk1 bs (cP bf s.g lv bl sv),ps,m]:=h4
  exact h5.fm (by classical exact dP.2 λx=>by simp only[fE,List.count_nil,jf.Gj];ac_rfl)
 ·rcases W6 with hh|⟨b,n,v,pv,l,g1,g2,g3,g4,g5⟩
  ·exact .inl hh
  ·exact .inr ⟨b,n,v,pv,l,g1,g2,g3,g4,g5⟩
theorem MN(hg:jZ m)(hs:aq mm [p,pf,m])(hp:SQ p m bs bf s)(hf:FA pf bf q nb ns A)(hk:Sm kk A nb ns)(hn:Eg A)(HT:FI q A s)(hL:s.L.length<=2000):
  bi tP 43 [fy bs] mm λr m'=>r=[i64 (sU s)]/\oJ m' m bs bf q nb ns A (if sU s=0 then s.at 1 else s):=by
 obtain⟨bl,lv,sv,AF⟩:=hp.lU (hs.sub (a:=p)) (hs.sub (a:=m));have hmS:cK mm:=hg.j8.sub (hs.sub);have hgl:=HT.gl;have hgb:=HT.g;have hB:sU s=if 0<s.st\/s.cY≠s.R.length then 7 else 0:=rfl
 have same:sU s≠0->oJ mm m bs bf q nb ns A (if sU s=0 then s.at 1 else s):=λh=>by rw[if_neg h];exact⟨p,pf,m,hs,cL.refl _,hp,hf⟩
 refine A4 c43 Tryz.func43 ?_;refine bt (r7 AF) ?_;refine xN ?_;refine bt (adz AF) ?_;apply bI<;>intro h
 ·have h1:0<s.st:=by have:=ah h;omega
  rw[aC (.inl h1)]at hB;exact⟨by rw[hB],same (by rw[hB];decide)⟩
 have h1:¬ 0<s.st:=by have:=aj h;omega
 refine bt (TN AF) ?_;by_cases h2:s.cY=s.R.length;rotate_left
 ·rw[aY h2]
  rw[aC (.inr h2)]at hB;refine xY ?_;exact⟨by rw[hB],same (by rw[hB];decide)⟩
 rw[bB h2];rw[if_neg (by simp only[not_or];exact⟨h1,by simpa using h2⟩)]at hB;rw[hB,aC rfl];refine xN ?_;obtain⟨R,hR,hK⟩:=AF.l;obtain⟨av,cv,rfl⟩:=hR.shape;have hlen:=hK.len;have yB:=AF.o;refine xM yB ?_;refine .mk (ι:=Nat×Value) (λi=>R.length-i.1) (λ⟨i,v⟩ m'=>i<=R.length/\∃pv g rs,aq m' [pv,g]/\cL mm g/\mf pv 100 1 v (List.map (λr:Value×List Int=>r.1) rs)/\rs.length=i/\rs.map (·.2)=kI (s.L.take i)/\∀r∈rs,La g r.1 r.2) (λ⟨i,v⟩=>[(0,.c (fy bs)),(3,.c (.v v)),(24,.c (.v (.slice av R.length cv))),(25,.c (i64 R.length)),(26,.c (i64 i))]) (λ_=>[]) (0,.slice none 0 0) ⟨by omega,iI,mm,[],(aq.one mm).cA,cL.refl _,.inl ⟨rfl,rfl⟩,rfl,by simp[kI],by simp⟩ ?_ ?_
 ·exact Cr
 rintro⟨i,v⟩ m' ⟨hi,pv,g,rs,ht,hmg,hpv,hrl,hrr,AG⟩;have wq:cL mm m':=hmg.trans (ht.sub);apply bI<;>intro h
 ·have h':=ah h
  have bH:i<R.length:=by omega
  obtain⟨b2,ol,c',hh,js⟩:=(hR.sub wq).real bH;injection hh with eK _ fN;subst eK;have js:=js i bH;have hx:=hK.je i bH (by omega);have hGx:=hgl _ (aO (show i<s.L.length by omega))
  have dI:kI (s.L.take (i+1))=kI (s.L.take i)++[nJ s.L[i]]:=by
   rw[au (by omega),xX];rfl
  rw[<-el8 hx]at js;have zu:=hx.len;have FO:=hx.e;have OQ:=hx.u8;generalize s.L[i]=x at*;generalize R[i]=r at*;rw[zu]at FO;obtain⟨xk,xu,xE⟩:=x;obtain⟨rk,ru,ra,rn,rc⟩:=r;have EM:=hGx.key;simp only at js FO OQ EM
  repeat refine xS ?_
  refine⟨[.one (.string xk),.bG .u64 8 xu,.one (.slice ra xE.length rc)],⟨rfl,OQ,rfl,trivial⟩,rfl,by simp only[bK,aA];exact js,?_⟩;refine aP (Er (x:=(xk,xu,xE)) (hmS.sub wq) (FO.sub wq) hGx.arg (by simp only;omega)) ?_;rintro _ m1⟨vr,pr,rfl,Fa,hbr⟩;have Fa:aq m1 [pr,pv,g]:=aq.jN (a:=[pr]) Fa ht;refine .mk _ (CC (x:=vr)) ?_;rintro _ _⟨b5,mo,rfl,rfl⟩;refine .mk _ (agp (i:=1) (Fa.grow (aD.bT _ mo)) rfl (aD.bg ..) hbr.lb.la.one hpv (by rw[aH];omega)) ?_;rintro _ m2⟨v2,pv2,rfl,JI,aub⟩;have JI:aq m2 [pr,pv2,g]:=JI;have W5:aq m2 ([pr,g]++[pv2]):=JI.fm (List.Perm.cons _ (List.Perm.swap _ _ _));obtain⟨W4,W3⟩:=aq.k9 _ W5;refine⟨(i+1,v2),⟨by omega,pv2,gY [pr,g],rs++[(vr,nJ (xk,xu,xE))],W4.fm (List.Perm.swap _ _ _),hmg.trans (W3.sub),by rw[bD];exact aub,by rw[ax,hrl];rfl,by rw[bD,hrr,dI];rfl,λr hr=>?_⟩,by simp only;omega,?_⟩
  ·rcases aR.1 hr with hr|hr
   ·exact(AG r hr).sub (W3.sub)
   ·rw[aL.1 hr];exact hbr.lb.la.sub (W3.sub)
  ·exact Cr
 ·have h':=aj h
  obtain rfl:i=R.length:=by omega
  have hrr:rs.map (·.2)=kI s.L:=by rw[hrr,hlen,aJ]
  have aqq:=wq _ _ yB;have auV:=HT.may (by omega);have hrb:∀r∈rs,r.2∈kI s.L:=λr hr=>by rw[<-hrr];exact aV.2 ⟨r,hr,rfl⟩
  have hbz:∀r∈rs,r.2.length<=1000000:=λr hr=>by
   obtain⟨x,hx,e⟩:=aV.1 (hrb r hr);have:=(hgl x hx).len;rw[<-e];omega
  refine xM aqq ?_;refine xM aqq ?_;have ew:IntKind.i64.wrap ((s.g:Int)+1)=((s.g+1:Nat):Int):=ado (by omega);conv=>whnf
  rw[ew];refine aP (aeS (ps:=rs) ((hg.sub (hs.sub (a:=m))).sub wq) ((hf.grow (hs.sub (a:=pf))).grow wq) hk hn auV (.inl ⟨hpv.ky.sub (ht.sub),λr hr=>(AG r hr).sub (ht.sub)⟩) (λr hr=>(zi hgl _ (hrb r hr)).2) (by omega) hbz) ?_;rintro _ m2 u9;conv=>whnf
  rw[hrr,aC (PT hgl)]at u9;obtain⟨b6,v6,p6,rfl,Fa,Xl⟩:=u9;refine xY ?_;obtain⟨bl,lv,sv,ps,cM,DO,W6⟩:=Cf hs hp
  have JI:aq m2 [blk1 b6 (dB bf ((s.g+1:Nat):Int) v6 1),p6,mm]:=by
   have h1:aq m2 ([blk1 b6 (dB bf ((s.g+1:Nat):Int) v6 1),p6]++[pv,g]):=aq.jN (a:=[blk1 b6 (dB bf ((s.g+1:Nat):Int) v6 1),p6]) Fa ht;have h2:aq m2 (g::[blk1 b6 (dB bf ((s.g+1:Nat):Int) v6 1),p6]):=(h1.dV 2).fm (dY (l₁:=[_,p6]) (l₂:=[g]));exact(aq.Ci h2 hmg).fm (dY (l₁:=[mm]) (l₂:=[_,p6]))
  have W5:aq m2 ([blk1 b6 (dB bf ((s.g+1:Nat):Int) v6 1),p6]++[blk1 bs (cP bf s.g lv bl sv),blk1 bl (eU bf (gK s.g) s.R.length s.cY),ps,pf,m]):=aq.jN (a:=[blk1 b6 (dB bf ((s.g+1:Nat):Int) v6 1),p6]) JI cM;obtain⟨W4,W3⟩:=aq.k9 _ W5;have adR:m2 bs=some (cP bf s.g lv bl sv):=W5.get (a:=blk1 bs (cP bf s.g lv bl sv)) (by simp) (aG ..);refine⟨_,_,_,adR,⟨by simp,by simp⟩,?_⟩;have ht6:=W4.gu (i:=1) rfl (aG ..) (cP bf s.g lv bl (.pointer (some ⟨b6,0,none⟩)));rw[cJ]at ht6;refine⟨rfl,sD (ps:=gY [blk1 b6 (dB bf ((s.g+1:Nat):Int) v6 1),p6]) (pf:=pf) (bl:=bl) (lv:=lv) (sv:=.pointer (some ⟨b6,0,none⟩)) ?_ (cL.refl _) DO ?_ hf⟩
  ·have h5:aq _ [gY [blk1 b6 (dB bf ((s.g+1:Nat):Int) v6 1),p6],blk1 bs (cP bf s.g lv bl (.pointer (some ⟨b6,0,none⟩))),blk1 bl (eU bf (gK s.g) s.R.length s.cY),ps,pf,m]:=ht6
   have h6:aq _ [gY [blk1 b6 (dB bf ((s.g+1:Nat):Int) v6 1),p6],blk1 bs (cP bf s.g lv bl (.pointer (some ⟨b6,0,none⟩))),blk1 bl (eU bf (gK s.g) s.R.length s.cY),pf,m]:=h5.dV 3;exact h6.fm (by classical exact dP.2 λx=>by simp only[fE,List.count_nil,jf.at];ac_rfl)
  ·refine .inr ⟨b6,s.g+1,v6,p6,eJ s.L,rfl,W3,?_,Wh (Fr.zJ λr hr=>(zi hgl r hr).2),λ_=>⟨rfl,rfl⟩⟩
   rw[eJ,Nm (Fr.zJ λr hr=>(zi hgl r hr).2)];exact Xl
def ajW(q:Int)(A:List Af)(s:jf)(m:aD)(bs bf nb ns:Nat)(r:List CV)(m':aD):Prop:=
 r=[i64 (tI q A s).1,i64 (tI q A s).2]/\∃oK kc A',oJ m' m bs bf q oK kc A' (qf q A s)/\FI q A' (qf q A s)/\oK<=nb+(eJ s.L).length/\kc<=ns+1/\Gr A A' (eJ s.L).length
theorem Pv(hg:jZ m)(hs:aq mm [p,pf,m])(hp:SQ p m bs bf s)(hf:FA pf bf q nb ns A)(hk:Sm kk A nb ns)(hn:Eg A)(HT:FI q A s)(hq:0<=q/\q<=9223372036854775807)(hL:(eJ s.L).length<=10000000)(hgb:s.g+1<=900000):
  bi tP 99 [fy bs] mm λr m'=>ajW q A s m bs bf nb ns r m':=by
 obtain⟨bl,lv,sv,AF⟩:=hp.lU (hs.sub (a:=p)) (hs.sub (a:=m));have adr:=HT.st;refine ub Tryz.func99 ?_;refine bt (r7 AF) ?_;refine xN ?_;refine bt (adz AF) ?_;apply bI<;>intro h
 ·have h0:s.st=0:=by simpa using h
  refine⟨by simp only[tI];rw[aC h0],nb,ns,A,?_⟩;simp only[qf];rw[aC h0];exact⟨⟨p,pf,m,hs,cL.refl _,hp,hf⟩,HT,by omega,by omega,.refl _ _⟩
 have h0:¬s.st=0:=by simpa using h
 obtain⟨bl,lv,sv,ps,cM,DO,W6⟩:=Cf hs hp;rcases W6 with⟨_,hh⟩|⟨b,n,v,pv,l,rfl,Ta,hbv,xt,aqo⟩
 ·exact absurd hh h0
 obtain⟨rfl,rfl⟩:=aqo (by omega);have yB:mm bs=some (cP bf s.g lv bl (.pointer (some ⟨b,0,none⟩))):=cM.get (a:=blk1 bs _) (by simp) (aG ..);have bM:aq mm ([blk1 b (dB bf ((s.g+1:Nat):Int) v s.st),pv]++[blk1 bs (cP bf s.g lv bl (.pointer (some ⟨b,0,none⟩))),blk1 bl (eU bf (gK s.g) s.R.length s.cY),pf,m]):=cM.Vn (i:=2) rfl Ta;have bZ:aq mm ([blk1 bs (cP bf s.g lv bl (.pointer (some ⟨b,0,none⟩))),blk1 bl (eU bf (gK s.g) s.R.length s.cY),m]++[blk1 b (dB bf ((s.g+1:Nat):Int) v s.st),pv,pf]):=bM.fm (by classical exact dP.2 λx=>by simp only[fE,List.count_nil,db,bV];ac_rfl);obtain⟨dy,eP⟩:=aq.k9 _ bZ;have eD:=dy.fm (dY (l₁:=[_]) (l₂:=[blk1 b (dB bf ((s.g+1:Nat):Int) v s.st),pv,pf]));refine xM yB ?_;refine aP (GD (n:=s.g+1) (hg.sub (eP.sub)) eD hbv hf hk xt hL hq hn (by omega) (by omega) adr) ?_;rintro _ m1⟨pf1,rfl,gC,Xg⟩;have iU:aq m1 ([blk1 b (dB bf ((s.g+1:Nat):Int) v (ib q (s.g+1) (eJ s.L) s.st A).st),pv]++[pf1,blk1 bs (cP bf s.g lv bl (.pointer (some ⟨b,0,none⟩))),blk1 bl (eU bf (gK s.g) s.R.length s.cY),m]):=aq.jN (a:=[blk1 b (dB bf ((s.g+1:Nat):Int) v (ib q (s.g+1) (eJ s.L) s.st A).st),pv,pf1]) gC eP;obtain⟨k8,zv⟩:=aq.k9 _ iU;have hnb:=Yr q (eJ s.L) s.st A nb;have NQ:=Yq s.st A ns;have aur:s.st=4->qG q (eJ s.L) s.st A nb=nb:=λh=>by unfold qG;rw[if_neg (by omega)]
 have auo:s.st=4->qF s.st A ns=ns:=λh=>by unfold qF;rw[if_neg (by omega)]
 generalize qG q (eJ s.L) s.st A nb=oK at*;generalize qF s.st A ns=kc at*;have nr:aq m1 [blk1 bs (cP bf s.g lv bl (.pointer (some ⟨b,0,none⟩))),blk1 bl (eU bf (gK s.g) s.R.length s.cY),gY [blk1 b (dB bf ((s.g+1:Nat):Int) v (ib q (s.g+1) (eJ s.L) s.st A).st),pv],pf1,m]:=k8.fm (by classical exact dP.2 λx=>by simp only[fE,List.count_nil];ac_rfl)
 have hT:tI q A s=(((ib q (s.g+1) (eJ s.L) s.st A).Yj:Int),(ib q (s.g+1) (eJ s.L) s.st A).e):=by
  unfold tI ib;rw[if_neg h0,if_neg h0];split
  ·split<;>rfl
  ·split
   ·rfl
   ·split<;>rfl
 have hS:s.st≠4->qf q A s=s.at (ib q (s.g+1) (eJ s.L) s.st A).st:=λh4=>by
  unfold qf ib;rw[if_neg h0,if_neg h0];split
  ·split<;>rfl
  ·split
   ·rfl
   ·rw[aC (by omega),aC (by omega)]
 have hFI:s.st≠4->FI q (ib q (s.g+1) (eJ s.L) s.st A).A (s.at (ib q (s.g+1) (eJ s.L) s.st A).st)/\Gr A (ib q (s.g+1) (eJ s.L) s.st A).A (eJ s.L).length:=λh4=>by
  unfold ib;rw[if_neg h0];split
  ·rename_i h1
   split
   ·rename_i jH
    exact⟨HT.aiV h1 jH,Gr.app⟩
   ·exact⟨HT.akh h1,Gr.sub (GI _ _)⟩
  ·split
   ·rename_i h2
    exact⟨HT.aiU h2,Gr.akd⟩
   ·rw[aC (by omega)]
    exact⟨HT.aiT (by omega),Gr.ren (by rw[Sn.zq];omega)⟩
 have ahl:∀s':jf,s'.st=(ib q (s.g+1) (eJ s.L) s.st A).st->(0<s'.st->s'.g=s.g/\s'.L=s.L)->SvP (gY [blk1 b (dB bf ((s.g+1:Nat):Int) v (ib q (s.g+1) (eJ s.L) s.st A).st),pv]) bf s' (.pointer (some ⟨b,0,none⟩)):=λs' h1 h2=>.inr ⟨b,s.g+1,v,pv,eJ s.L,rfl,by rw[h1];exact zv,hbv,xt,λh3=>by
  obtain⟨e1,e2⟩:=h2 h3
  rw[e1,e2];exact⟨rfl,rfl⟩⟩
 have qX:s.st≠4->ajW q A s m bs bf nb ns [i64 (ib q (s.g+1) (eJ s.L) s.st A).Yj,i64 (ib q (s.g+1) (eJ s.L) s.st A).e] m1:=λh4=>by
  obtain⟨f1,f2⟩:=hFI h4;refine⟨by rw[hT],oK,kc,_,?_,by rw[hS h4];exact f1,hnb,NQ,f2⟩;rw[hS h4];exact sD (s:=s.at _) nr (cL.refl _) DO (ahl _ rfl λ_=>⟨rfl,rfl⟩) Xg
 by_cases h4:s.st=4
 ·clear qX hS hFI
  have e4:ib q (s.g+1) (eJ s.L) s.st A=⟨r6 (s.g+1) A,0,0,0⟩:=by
   unfold ib;rw[if_neg h0,if_neg (by omega),if_neg (by omega),if_neg (by omega)]
  have hTT:tI q A s=(0,0):=by rw[hT,e4];rfl
  rw[e4]at nr ahl Xg⊢;simp only at nr ahl Xg⊢
  have xr:bS (r6 (s.g+1) A) (gK (s.g+1))=none:=by
   rw[wD];split
   ·rfl
   ·exact HT.nl _ (by omega) (by omega)
  have hsw:(r6 (s.g+1) A).Sublist A:=KE _ _ _;refine xY ?_;refine xY ?_;refine aP (TL (g:=iI) hg (nr.cA.ir [1,2,3,0,4,5]) (by obtain⟨_,_,e⟩:=DO.shape;rw[e];rfl) rfl Xg (by rw[aur h4,auo h4];exact abA hsw hk) (by omega) hq (λh=>by have:=MB hsw;have:=HT.qt h;omega) xr) ?_;rintro _ m2⟨rfl,OY,Va,A',Fa,U9,iH,Tb⟩
  have hSS:qf q A s=s.next:=by
   unfold qf;rw[if_neg h0,if_neg (by omega),if_neg (by omega),if_neg (by omega)]
  refine⟨by rw[hTT];rfl,oK,kc,A',?_,?_,hnb,NQ,Gr.sub (iH.trans hsw)⟩
  ·rw[hSS]
   exact sD (s:=s.next) (bl:=OY) (Fa.ir [0,1,2,4,5]) (cL.refl _) (by rw[jf.akD];exact DO) (ahl _ rfl λh=>absurd h (by simp[jf.next])) U9
  ·rw[hSS]
   exact HT.aiS h4 hgb Tb (λk h=>Pr iH h) (MB (iH.trans hsw))
 ·have ga:¬((ib q (s.g+1) (eJ s.L) s.st A).Yj=0/\(ib q (s.g+1) (eJ s.L) s.st A).e=0):=by
   unfold ib;rw[if_neg h0];split
   ·split<;>simp
   ·split
    ·simp
    ·rw[aC (by omega)];simp
  apply bI<;>intro h
  ·have h1:(ib q (s.g+1) (eJ s.L) s.st A).Yj=0:=by
    have:((ib q (s.g+1) (eJ s.L) s.st A).Yj:Int)=0:=by simpa using h
    omega
   have h2:(ib q (s.g+1) (eJ s.L) s.st A).e≠0:=λe=>ga ⟨h1,e⟩;refine⟨λh=>absurd (by simpa using h) h2,λ_=>?_⟩;exact qX h4
  ·exact qX h4
def xd(b:List Int)(s:RS):Prop:=∃k,k<=b.length/\s.1=b.drop k
variable{b:List Int}{s:RS}
theorem xd.take(h:xd b s)(n:Nat):xd b (fL n s).2:=by
 obtain⟨k,hk,e⟩:=h;unfold fL;split
 ·exact⟨k,hk,e⟩
 ·split
  ·exact⟨k,hk,e⟩
  ·rename_i h2
   rw[e,cC]at h2;exact⟨k+n,by omega,by simp only[e,dU]⟩
theorem xd.akH(h:xd b s)(x:Bool):xd b (ef x s):=by
 obtain⟨k,hk,e⟩:=h;exact⟨k,hk,by rw[KQ];exact e⟩
theorem xd.num(h:xd b s):xd b (og s).2:=by
 unfold og;have h1:=h.take 1;generalize fL 1 s=e at*;obtain⟨hd,s1⟩:=e;simp only at h1⊢;split
 ·exact h1
 ·exact((h1.akH _).take _).akH _
theorem xd.tK(h:xd b s)(dG:Int):xd b (cZ dG s).2:=by
 unfold cZ;exact h.num.akH _
theorem xd.jI(h:xd b s):xd b (gZ s).2:=by
 unfold gZ;exact h.take 32
theorem xd.bG{dG:Int}:∀(n:Nat) (l:List Int) {s:RS},xd b s->xd b (sj dG n l s).2
 |0,_,_,h=>h
 |n+1,_,_,h=>xd.bG n _ (h.tK dG)
theorem xd.D8:∀(n:Nat) (l:List (List Nat)) {s:RS},xd b s->xd b (so n l s).2
 |0,_,_,h=>h
 |n+1,_,_,h=>xd.D8 n _ h.jI
theorem xd.oF(h:xd b s):b.drop (b.length-s.1.length)=s.1/\s.1.length<=b.length:=by
 obtain⟨k,hk,e⟩:=h;rw[e,cC];exact⟨by rw[show b.length-(b.length-k)=k by omega],by omega⟩
theorem akL(b:List Int):xd b (Rm.mA b).2:=by
 have h0:xd b ((b,0):RS):=⟨0,by omega,rfl⟩;have h5:xd b (Rm.m5 b).2:=((((h0.tK 7).tK 8).tK 8).tK _).tK 7
 have h6:xd b (Rm.m6 b).2:=by
  unfold Rm.m6;split
  ·exact h5.jI
  ·exact h5
 exact xd.D8 _ _ ((xd.bG _ _ (h6.tK 16)).tK 16)
theorem xd.xA(h:xd b s)(hb:jl b):jl s.1:=by
 obtain⟨k,_,e⟩:=h;rw[e];exact hb.drop k
theorem KR{dG:Int}:∀(n:Nat) (l:List Int) (s:RS),(sj dG n l s).1.length=l.length+n
 |0,_,_=>rfl
 |n+1,l,s=>by
  rw[sj,KR n];simp;omega
theorem KS:∀(n:Nat) (l:List (List Nat)) (s:RS),(so n l s).1.length=l.length+n
 |0,_,_=>rfl
 |n+1,l,s=>by
  rw[so,KS n];simp;omega
theorem MZ(b:List Int):(lT b).1.length<=2000:=by
 unfold lT;split
 ·simp
 ·rename_i h
  have:cX (E9 b).1=true:=by
   cases hr:cX (E9 b).1 with
   |true=>rfl
   |false=>exact absurd (.inr hr) h
  exact aaV this
theorem acQ(b:List Int):xd b (Rm.m6 b).2:=by
 have h0:xd b ((b,0):RS):=⟨0,by omega,rfl⟩;have h5:xd b (Rm.m5 b).2:=((((h0.tK 7).tK 8).tK 8).tK _).tK 7;unfold Rm.m6;split
 ·exact h5.jI
 ·exact h5
theorem akN(hb:jl b):(Rm.m8 b).1.length<=16:=by
 have h:=ij (dG:=16) ((acQ b).xA hb) ⟨by decide,by decide⟩;unfold Rm.m8;rw[KR];have e:Rm.m7 b=cZ 16 (Rm.m6 b).2:=rfl;rw[e];simp;omega
theorem akM(hb:jl b):(Rm.mA b).1.length<=16:=by
 have h8:xd b (Rm.m8 b).2:=xd.bG _ _ ((acQ b).tK 16);have h:=ij (dG:=16) (h8.xA hb) ⟨by decide,by decide⟩;unfold Rm.mA;rw[KS];have e:Rm.m9 b=cZ 16 (Rm.m8 b).2:=rfl;rw[e];simp;omega
abbrev noS:iS:=⟨(none,0),(none,0),(none,0)⟩
abbrev Rm.x0(l:List Int):gX:=⟨(Rm.m1 l).1,(Rm.m2 l).1,(Rm.m3 l).1,(Rm.m4 l).1,(Rm.m5 l).1,fX,[],[],[]⟩
theorem agT{x:gX}{s:iS}{d:List Int}(h:x.jI.length=32)(hd:d.length=32)(hn:nc (FB d)=d):List.take (0+5) (LB.cz (x.L s)).toArray.toList++(LB.cz [eB.bG .u8 32 d]++List.drop (0+5+LB.size [eB.bG .u8 32 d]) (LB.cz (x.L s)).toArray.toList)=LB.cz (gX.L {x with jI:=FB d} s):=by
 have e:(LB.cz (x.L s))=[.int .i64 x.kind,.int .i64 x.fr,.int .i64 x.qe,.int .i64 x.qA,.int .i64 x.part]++((nc x.jI).map (Value.int .u8)++[.slice s.p.1 x.pl.length s.p.2,.slice s.d.1 x.dg.length s.d.2,.slice s.c.1 x.ca.length s.c.2]):=by simp[LB.cz,eB.cells]
 have hl:((nc x.jI).map (Value.int .u8)).length=32:=by simp[h]
 have e2:List.drop 37 (LB.cz (x.L s))=[.slice s.p.1 x.pl.length s.p.2,.slice s.d.1 x.dg.length s.d.2,.slice s.c.1 x.ca.length s.c.2]:=by
  rw[e,<-aX,List.drop_left' (by simp[h])]
 have e3:List.take 5 (LB.cz (x.L s))=[.int .i64 x.kind,.int .i64 x.fr,.int .i64 x.qe,.int .i64 x.qA,.int .i64 x.part]:=by
  rw[e];rfl
 show List.take 5 (LB.cz (x.L s))++(LB.cz [eB.bG .u8 32 d]++List.drop 37 (LB.cz (x.L s)))=_
 rw[e2,e3];simp only[gX.L,hn];simp[LB.cz,eB.cells]
theorem xP{bp:Nat}{dG:Int}{n:Int×RS}(h:Rd m bp s)(hm:I64 dG)(e:cZ dG s=n):bi tP 293 [cx bp,i64 dG] m λr m'=>r=[i64 n.1]/\Rd m' bp n.2/\qP m m' bp:=by
 subst e;exact j9 h hm
theorem UB(hS:cK m)(hv:Lb m v l)(hb:jl l)(hl:l.length<=100000000):
  bi tP 231 [.v v] m λr m'=>∃s' p,r=[mT (sg l).1 s',i64 (sg l).2]/\aq m' [p,m]/\gy p (sg l).1 s'/\qx (sg l).1/\∀x∈(sg l).1.ca,aiL x:=by
 have apo:=(akL l).oF;have hX:Rm.mX l=⟨(Rm.m1 l).1,(Rm.m2 l).1,(Rm.m3 l).1,(Rm.m4 l).1,(Rm.m5 l).1,FB (Rm.m6 l).1,(Rm.m8 l).1,(Rm.mA l).1,(Rm.mC l).1⟩:=rfl;have hM:sg l=if (Rm.mA l).2.2≠0\/(Rm.mC l).2≠0\/dR (Rm.mX l)=false then(fP,3)else(Rm.mX l,0):=rfl
 have hC:Rm.mC l=lT (if (Rm.mA l).2.2≠0 then[]else(Rm.mA l).2.1):=rfl;have hA:Rm.mA l=so (Rm.m9 l).1.toNat [] (Rm.m9 l).2:=rfl;have h9:Rm.m9 l=cZ 16 (Rm.m8 l).2:=rfl;have h8:Rm.m8 l=sj 20 (Rm.m7 l).1.toNat [] (Rm.m7 l).2:=rfl;have h7:Rm.m7 l=cZ 16 (Rm.m6 l).2:=rfl;have h6:Rm.m6 l=if (Rm.m1 l).1=1 then gZ (Rm.m5 l).2 else(List.replicate 32 0,(Rm.m5 l).2):=rfl
 obtain⟨va,vc,rfl⟩:=hv.shape;refine A4 awp Tryz.func231 ?_;refine aP (zy hv.la hb hl) ?_;rintro _ mm⟨bp,q,rfl,hs,hr⟩;refine aP (bi.frame hs (xP (dG:=7) (n:=Rm.m1 l) hr ⟨by decide,by decide⟩ rfl)) ?_;rintro _ mm⟨q,⟨rfl,hr,_⟩,hs⟩;refine aP (bi.frame hs (xP (dG:=8) (n:=Rm.m2 l) hr ⟨by decide,by decide⟩ rfl)) ?_;rintro _ mm⟨q,⟨rfl,hr,_⟩,hs⟩;refine aP (bi.frame hs (xP (dG:=8) (n:=Rm.m3 l) hr ⟨by decide,by decide⟩ rfl)) ?_;rintro _ mm⟨q,⟨rfl,hr,_⟩,hs⟩;refine aP (bi.frame hs (xP (dG:=1099511627776) (n:=Rm.m4 l) hr ⟨by decide,by decide⟩ rfl)) ?_;rintro _ mm⟨q,⟨rfl,hr,_⟩,hs⟩;refine aP (bi.frame hs (xP (dG:=7) (n:=Rm.m5 l) hr ⟨by decide,by decide⟩ rfl)) ?_;rintro _ mm⟨q,⟨rfl,hr,_⟩,hs⟩;intro bm EO;refine⟨_,_,_,aD.bg ..,⟨aW 40,Jz⟩,?_⟩;rw[BM (by rfl)];have bM:=hs.new EO (px (Rm.x0 l) noS);refine xM (aD.bg ..) ?_;refine⟨λh=>?a1,λh=>?a2⟩
 case' a1=>
  have h1:(Rm.m1 l).1=1:=by simpa using h
  rw[aC h1]at h6;obtain⟨NW,hdb⟩:=GR hr.xA;refine aP (bi.at (i:=1) bM rfl (GM hr)) ?_;rintro _ mm⟨q,⟨rfl,hr⟩,bZ⟩;conv=>whnf
  rw[<-h6]at hr NW hdb⊢;have DU:mm bm=some (px (Rm.x0 l) noS):=bZ.get (a:=blk1 bm (px (Rm.x0 l) noS)) (by simp) (aG ..);refine⟨_,_,_,DU,⟨?_,Jz⟩,?_⟩
  ·simp only[LB.size,eB.size]
   simp[LB.cz,eB.cells,fX]
  conv=>whnf
  rw[agT (x:=Rm.x0 l) rfl NW (Uz hdb)];have dy:=bZ.gu (i:=0) rfl (aG ..) (px {Rm.x0 l with jI:=FB (Rm.m6 l).1} noS);rw[cJ]at dy;have eP:aq _ [q,blk1 bm (px {Rm.x0 l with jI:=FB (Rm.m6 l).1} noS),m]:=dy.ir [1,0,2];generalize mm.set bm _=mm at eP⊢;have DT:(FB (Rm.m6 l).1).length=32:=by rw[FB,aH];exact NW
 case' a2=>
  have h1:¬(Rm.m1 l).1=1:=by simpa using h
  rw[if_neg h1]at h6;have hr:Rd q bp (Rm.m6 l).2:=by rw[h6];exact hr
  have DT:(FB (Rm.m6 l).1).length=32:=by rw[h6];rfl
  have eP:aq (mm.set bm (px (Rm.x0 l) noS)) [q,blk1 bm (px {Rm.x0 l with jI:=FB (Rm.m6 l).1} noS),m]:=by
   rw[h6];exact bM.ir [1,0,2]
  conv=>whnf
 all_goals
  refine aP (UE (x:={Rm.x0 l with jI:=FB (Rm.m6 l).1}) eP hr rfl rfl DT) ?_;rintro _ mm⟨rfl,P,D,q,pp,pd,sp,sd,hP,hD2,hs,hr,hpp,hpd⟩;conv=>whnf
  rw[<-h7,<-h8]at hP;subst hP;rw[<-h9,<-hA]at hD2;subst hD2;refine bt (Zi (hr.mono (hs.sub))) ?_;conv=>whnf
  obtain⟨k,hk,hke,hkd⟩:∃k:Nat,k<=l.length/\IntKind.i64.wrap ((l.length:Int)-if (Rm.mA l).2.2≠0 then 0 else((Rm.mA l).2.1.length:Int))=(k:Int)/\l.drop k=(if (Rm.mA l).2.2≠0 then[]else(Rm.mA l).2.1):=by
   by_cases he:(Rm.mA l).2.2≠0
   ·rw[aC he,aC he]
    exact⟨l.length,aW _,by rw[wi];omega,List.drop_length⟩
   ·rw[if_neg he,if_neg he]
    have:=apo.2;exact⟨l.length-(Rm.mA l).2.1.length,by omega,by rw[wi];omega,apo.1⟩
  rw[<-hkd]at hC;rw[hke];rcases hv.cases with⟨c2,h2,hl0⟩|⟨b2,o2,c2,arr,t2,fr2,h2,_,hc2,_⟩
  all_goals
   injection h2 with h2 _ h4;subst h2
  case' inl=>
   have EL:La mm (.slice none (l.length-((k:Int)).toNat) (vc-((k:Int)).toNat)) (List.drop k l):=by
    subst hl0;have ZB:k=0:=by simpa using hk
    subst ZB;exact .inl (.inl ⟨vc,rfl,rfl⟩)
   repeat refine xS ?_
  case' inr=>
   subst h4
   repeat refine xS ?_
   intro o1 I8 _;have EL:=Lb.ach (hv.la.sub (hs.sub)) hc2 k hk o1 (λh=>by have:=I8 (by rw[aA];omega);simpa using this);simp only[aA];conv=>whnf
  all_goals
   refine aP (MX (hS.sub (hs.sub)) EL (hb.drop k) (by rw[cC];omega)) ?_;rintro _ mm⟨v4,p4,rfl,eD,hky,JR⟩;conv=>whnf
   rw[<-hC]at hky JR⊢;obtain⟨ca,cc,rfl⟩:=hky.shape;have gC:=aq.jN (a:=[p4]) eD hs;have DU:=gC.get (a:=blk1 bm (px {Rm.x0 l with jI:=FB (Rm.m6 l).1,pl:=(Rm.m8 l).1,dg:=(Rm.mA l).1} ⟨sp,sd,(none,0)⟩)) (by simp) (aG ..);have dI:=Nq (x:={Rm.x0 l with jI:=FB (Rm.m6 l).1,pl:=(Rm.m8 l).1,dg:=(Rm.mA l).1}) (y:=Rm.mX l) (s:=⟨sp,sd,(none,0)⟩) (s':=⟨sp,sd,(ca,cc)⟩) (o:=39) (v:=.slice ca (Rm.mC l).1.length cc) DT rfl rfl;refine⟨_,_,_,DU,⟨dI.1,by simp⟩,?_⟩;have iU:=gC.gu (i:=4) rfl (aG ..) (px (Rm.mX l) ⟨sp,sd,(ca,cc)⟩);rw[cJ]at iU;rw[dI.2];generalize mm.set bm _=mm at iU⊢;have k8:aq mm [p4,pp,pd,q,blk1 bm (px (Rm.mX l) ⟨sp,sd,(ca,cc)⟩),m]:=iU;have DU:=k8.get (a:=blk1 bm (px (Rm.mX l) ⟨sp,sd,(ca,cc)⟩)) (by simp) (aG ..);have nT:∀j,cL p4 j->cL pp j->cL pd j->gy j (Rm.mX l) ⟨sp,sd,(ca,cc)⟩:=λj h1 h2 h3=>⟨DT,(hpp.il.ia).sub h2,(hpd.dl.da).sub h3,hky.sub h1⟩
   have ez:qx (Rm.mX l):=⟨λc hc=>(JR c hc).a,λc hc=>by have:=(JR c hc).k;omega,λc hc=>by have:=(JR c hc).n;omega,by
    have:=MZ (if (Rm.mA l).2.2≠0 then[]else(Rm.mA l).2.1)
    show(Rm.mC l).1.length<=_
    rw[Rm.mC]
    omega,by have:=akN hb;show(Rm.m8 l).1.length<=_;omega,by have:=akM hb;show(Rm.mA l).1.length<=_;omega⟩
   have uK:sg l=(fP,3)->∃s' p,[mT fP noS,i64 3]=[mT (sg l).1 s',i64 (sg l).2]/\aq mm [p,m]/\gy p (sg l).1 s'/\qx (sg l).1/\∀x∈(sg l).1.ca,aiL x:=λe=>by
    rw[e];exact⟨noS,iI,rfl,(k8.ir [5]).cA,⟨rfl,(Io.nil _).il.ia,(I0.nil _).dl.da,lu.nil _⟩,⟨by simp[fP],by simp[fP],by simp[fP],by simp[fP],by simp[fP],by simp[fP]⟩,by simp[fP]⟩
   refine bt (iX (hr.mono (k8.sub))) ?_;apply bI<;>intro h2
   ·have iD:(Rm.mA l).2.2≠0:=by simpa using h2
    exact uK (by rw[hM,aC (.inl iD)])
   have iD:¬(Rm.mA l).2.2≠0:=by simpa using h2
   apply bI<;>intro h3
   ·have yF:(Rm.mC l).2≠0:=by simpa using h3
    exact uK (by rw[hM,aC (.inr (.inl yF))])
   have yF:¬(Rm.mC l).2≠0:=by simpa using h3
   refine⟨gX.L (Rm.mX l) ⟨sp,sd,(ca,cc)⟩,wb DT,rfl,dQ.Wl [] [] DU rfl,?_⟩;obtain⟨j,k1,k2,zv⟩:=aq.sK k8;obtain⟨j2,k3,k4,nr⟩:=aq.sK zv;have aqC:=nT j2 (k1.trans k3) (k2.trans k3) k4;refine bt (nG (x:=Rm.mX l) (s:=⟨sp,sd,(ca,cc)⟩) (hS.sub (k8.sub)) (aqC.sub (nr.sub)) ez) ?_;by_cases jK:dR (Rm.mX l)=true
   ·rw[jK]
    refine xN ?_;refine⟨gX.L (Rm.mX l) ⟨sp,sd,(ca,cc)⟩,wb DT,rfl,dQ.Wl [] [] DU rfl,?_⟩;have e:sg l=(Rm.mX l,0):=by rw[hM,if_neg (by simp only[jK,not_or];exact⟨iD,yF,by decide⟩)]
    rw[e];exact⟨⟨sp,sd,(ca,cc)⟩,j2,rfl,nr.ir [0,3],aqC,ez,JR⟩
   ·have jK:dR (Rm.mX l)=false:=by simpa using jK
    rw[jK];refine xY ?_;exact uK (by rw[hM,aC (.inr (.inr jK))])
theorem Qp{x:gX}{s:iS}(hS:cK m)(hx:gy m x s)(ho:qx x)(hl:(x.ca.map nJ).flatten.length<=9000000):
  bi tP 230 [mT x s] m λr m'=>∃v p,r=[.v v,i64 (if dR x then 0 else 3)]/\aq m' [p,m]/\Bs p v (if dR x then we x else[]):=by
 refine A4 awq Tryz.func230 ?_;refine bt (nG hS hx ho) ?_;by_cases hr:dR x=true;rotate_left
 ·have hr:dR x=false:=by simpa using hr
  rw[hr];refine xY ?_;exact⟨_,iI,rfl,(aq.one m).cA,Bs.nil _⟩
 have r:=nD hr;rw[hr,aC rfl,aC rfl];refine xN ?_;intro b hb;obtain⟨k1,k2⟩:=r.k;obtain⟨f1,f2⟩:=r.f;obtain⟨t1,t2⟩:=r.t;obtain⟨s1,s2⟩:=r.s;obtain⟨p1,p2⟩:=r.p;have LK:aq (m.set b (.cells (LB.cz [.one (.slice none 0 0)]).toArray 162)) [blk1 b (.cells (LB.cz [.one (.slice none 0 0)]).toArray 162),m]:=(aq.one m).new hb _;refine .mk (ι:=Nat) (λi=>5-i) (λi mm=>i<=5/\∃p,aq mm [p,m]/\Wr p b (kH ([x.kind,x.fr,x.qe,x.qA,x.part].take i))) (λi=>[(1,.p 0 0),(4,.c (cx b)),(28,.c (.a [.bG .i64 5 [x.kind,x.fr,x.qe,x.qA,x.part]])),(29,.c (i64 i))]) (λ_=>[(38,x.L s)]) 0 ⟨by omega,_,LK,To b⟩ ?_ ?_
 ·exact Cr
 rintro i mm⟨hi,p,hs,hw⟩;apply bI<;>intro h
 ·have h':=ah h
  have bH:i<5:=by omega
  have hF:∀v∈[x.kind,x.fr,x.qe,x.qA,x.part],0<=v/\v<=1099511627776:=by
   intro v hv;simp only[aU,fG,rH]at hv;rcases hv with rfl|rfl|rfl|rfl|rfl<;>omega
  have hlen:[x.kind,x.fr,x.qe,x.qA,x.part].length=5:=rfl;have vd:=au (l:=[x.kind,x.fr,x.qe,x.qA,x.part]) (i:=i) (by omega);have hm:=hF _ (aO (l:=[x.kind,x.fr,x.qe,x.qA,x.part]) (n:=i) (by omega));have xz:=qd ([x.kind,x.fr,x.qe,x.qA,x.part].take i);rw[aK]at xz;have et:bK (i:Int) 1=i:=by simp[bK]
  have eg:[x.kind,x.fr,x.qe,x.qA,x.part].getD (bK (i:Int) 1) 0=[x.kind,x.fr,x.qe,x.qA,x.part][i]'(by omega):=by
   rw[et,aI,az (by omega)];rfl
  generalize [x.kind,x.fr,x.qe,x.qA,x.part][i]'(by omega)=v at eg vd hm
  repeat (refine xS ?_;conv=>whnf)
  rw[eg,wu];refine aP (bi.frame hs (iK (n:=v) hw ⟨by omega,by omega⟩ (by omega))) ?_;rintro _ m'⟨p',⟨rfl,S8⟩,qW⟩;refine⟨i+1,⟨by omega,p',qW,by rw[vd,Ku];exact S8⟩,by omega,?_⟩;exact Cr
 have h':=aj h;obtain rfl:i=5:=by omega
 rw[bP (aW 5)]at hw;have hl5:=qd [x.kind,x.fr,x.qe,x.qA,x.part];rw[show[x.kind,x.fr,x.qe,x.qA,x.part].length=5 from rfl]at hl5;have DT:(nc x.jI).length=32:=by rw[aH];exact hx.Th
 have hgo:∀l0:List Int,l0=kH [x.kind,x.fr,x.qe,x.qA,x.part]++(if x.kind=1 then nc x.jI else[])->l0.length<=100/\we x=l0++Wm.t6 x:=by
  rintro _ rfl;refine⟨?_,?_⟩
  ·rw[ax]
   split
   ·omega
   ·simp;omega
  ·simp[we,Wm.t1,Wm.t2,Wm.t3,Wm.t4,Wm.t5,kH]
 refine⟨λh=>?a1,λh=>?a2⟩
 case' a1=>
  have h1:x.kind=1:=by simpa using h
  rw[aC h1]at hgo;obtain⟨hl0,hB⟩:=hgo _ rfl;refine aP (bi.frame hs (BF hw DT (by omega))) ?_;rintro _ mm⟨p,⟨rfl,hw⟩,hs⟩;conv=>whnf
  generalize kH [x.kind,x.fr,x.qe,x.qA,x.part]++nc x.jI=l0 at hl0 hB hw
 case' a2=>
  have h1:¬x.kind=1:=by simpa using h
  rw[if_neg h1,cO]at hgo;obtain⟨hl0,hB⟩:=hgo _ rfl;generalize kH [x.kind,x.fr,x.qe,x.qA,x.part]=l0 at hl0 hB hw;conv=>whnf
 all_goals
  rw[hB];have np:=r.pn;have nd:=r.dn;have hnp:=eI (x.pl.length:Int);have NR:=eI (x.dg.length:Int);have hvp:=qd x.pl;rw[wu];refine aP (bi.frame hs (iK (n:=(x.pl.length:Int)) hw (yf (by omega)) (by omega))) ?_;rintro _ mm⟨p,⟨rfl,hw⟩,hs⟩;refine .mk (ι:=Nat) (λi=>x.pl.length-i) (λi mm=>i<=x.pl.length/\∃p,aq mm [p,m]/\Wr p b (l0++fe x.pl.length++kH (x.pl.take i))) (λi=>[(1,.p 0 0),(4,.c (cx b)),(51,.c (.v (.slice s.p.1 x.pl.length s.p.2))),(52,.c (i64 x.pl.length)),(53,.c (i64 i))]) (λ_=>[(38,x.L s)]) 0 ⟨by omega,p,hs,by simpa [kH]using hw⟩ ?_ ?_
  ·exact Cr
  rintro i mm⟨hi,p,hs,hw⟩;apply bI<;>intro h
  ·have h':=ah h
   have bH:i<x.pl.length:=by omega
   obtain⟨bl,ol,c',hh,hg⟩:=(hx.pl.sub (hs.sub (a:=m))).real bH;injection hh with eK _ fN;have wA:=hg i bH;have vd:=au bH;have hm:=r.pl _ (aO bH);have xz:=qd (x.pl.take i);rw[aK]at xz;generalize x.pl[i]=v at wA vd hm;conv=>whnf
   simp only[eK]
   repeat refine xS ?_
   refine⟨_,wA,rfl,?_⟩;conv=>whnf
   rw[wu];refine aP (bi.frame hs (iK (n:=v) hw ⟨by omega,by omega⟩ (by simp only[ax];omega))) ?_;rintro _ mm⟨p,⟨rfl,hw⟩,hs⟩;refine⟨i+1,⟨by omega,p,hs,by rw[vd,Ku];simpa only[aX]using hw⟩,by omega,?_⟩;exact Cr
  have h':=aj h;obtain rfl:i=x.pl.length:=by omega
  rw[aJ]at hw;conv=>whnf
  rw[wu];refine aP (bi.frame hs (iK (n:=(x.dg.length:Int)) hw (yf (by omega)) (by simp only[ax];omega))) ?_;rintro _ mm⟨p,⟨rfl,hw⟩,hs⟩
  have aqg:∀i,(xw (x.dg.take i)).length<=32*x.dg.length:=λi=>by
   have:=zG (D:=x.dg.take i) λd hd=>hx.dg.ok d (bX hd);rw[aK,IB,zX]at this;rw[xw,zX];simp only[aH]at this⊢;omega
  refine .mk (ι:=Nat) (λi=>x.dg.length-i) (λi mm=>i<=x.dg.length/\∃p,aq mm [p,m]/\Wr p b (l0++fe x.pl.length++kH x.pl++fe x.dg.length++xw (x.dg.take i))) (λi=>[(1,.p 0 0),(4,.c (cx b)),(69,.c (.v (.slice s.d.1 x.dg.length s.d.2))),(70,.c (i64 x.dg.length)),(71,.c (i64 i))]) (λ_=>[(38,x.L s)]) 0 ⟨by omega,p,hs,by simpa [xw]using hw⟩ ?_ ?_
  ·exact Cr
  rintro i mm⟨hi,p,hs,hw⟩;apply bI<;>intro h
  ·have h':=ah h
   have bH:i<x.dg.length:=by omega
   obtain⟨bl,ol,c',hh,hg⟩:=(hx.dg.sub (hs.sub (a:=m))).real bH;injection hh with eK _ fN;have wA:=hg i bH
   have vd:xw (x.dg.take (i+1))=xw (x.dg.take i)++nc x.dg[i]:=by
    rw[au bH,xw,dx];simp[xw]
   have hm:(nc x.dg[i]).length=32:=by rw[aH];exact hx.dg.ok _ (aO bH)
   have xz:=aqg i;generalize x.dg[i]=v at wA vd hm;conv=>whnf
   simp only[eK]
   repeat refine xS ?_
   refine⟨[.bG .u8 32 (nc v)],⟨hm,trivial⟩,rfl,by simp only[bK,aA];exact wA,?_⟩;refine aP (bi.frame hs (BF hw hm (by simp only[ax];omega))) ?_;rintro _ mm⟨p,⟨rfl,hw⟩,hs⟩;refine⟨i+1,⟨by omega,p,hs,by rw[vd];simpa only[aX]using hw⟩,by omega,?_⟩;exact Cr
  have h':=aj h;obtain rfl:i=x.dg.length:=by omega
  have xz:=aqg x.dg.length;rw[aJ]at hw xz;refine aP (xC (hS.sub (hs.sub)) (hx.ca.sub (hs.sub)) ho.k r.ca hl) ?_;rintro _ mm⟨v2,p2,rfl,bZ,lD⟩;have dy:=aq.jN (a:=[p2]) bZ hs;refine aP ((tF hw (by simp only[ax];omega)).at dy (i:=1) rfl) ?_;rintro _ mm⟨p3,⟨v3,q,rfl,eP,tX⟩,eD⟩;have gC:aq mm [q,p,p2,m]:=eD.Vn (i:=1) rfl eP
  have Xd:(B3 x.ca).length<=9000009:=by
   have:=eI (x.ca.length:Int);rw[B3,ax];omega
  refine .mk _ (nQ (i:=0) gC rfl tX (lD.lb.sub (gC.sub)).la (by simp only[ax];omega)) ?_;rintro _ mm⟨v4,p4,rfl,iU,HZ⟩;have k8:aq mm [p4,m]:=iU.ir [0,3];refine⟨v4,p4,rfl,k8,?_⟩;have e:l0++Wm.t6 x=l0++fe x.pl.length++kH x.pl++fe x.dg.length++xw x.dg++B3 x.ca:=by simp only[Wm.t6,Wm.t7,Wm.t8,Wm.t9,aX]
  rw[e];exact HZ.ux
theorem TE{t:List Nat}{w:Value}{D:List (List Nat)}(hv:Ia m v l)(hw:OO m w D)(hl:l.length<=1000000)(hI:Pls l)(ga:(Tr.fV l).length≠D.length):bi tP 321 [Gf t,.v v,.v w] m λr m'=>r=[.v (.slice none 0 0),i64 3]/\cL m m':=by
 obtain⟨a,c,rfl⟩:=hv.shape;obtain⟨aw,cw,rfl⟩:=hw.shape;refine A4 are Tryz.func321 ?_;refine aP (ul hv hl hI) ?_;rintro _ m1⟨v1,q1,rfl,bM,lZ⟩;obtain⟨a1,c1,rfl⟩:=lZ.il.shape;refine⟨λ_=>?_,λh=>absurd h (by(simp at h;omega))⟩;exact⟨rfl,bM.sub⟩
theorem Ya{t:List Nat}{w:Value}{D:List (List Nat)}(ht:t.length=672)(hv:Ia m v l)(hw:OO m w D)(hl:l.length<=1000000)(hI:Pls l)(NV:(Tr.fV l).length=D.length):bi tP 321 [Gf t,.v v,.v w] m λr m'=>∃v' q,r=[.v v',i64 0]/\aq m' [q,m]/\Io q v' (Tr.I6 t (Tr.fV l) D):=by
 obtain⟨a,c,rfl⟩:=hv.shape;obtain⟨aw,cw,rfl⟩:=hw.shape;have Xd:=Tr.rN l
 have zw:∀i (h:i<(Tr.fV l).length),∃k:Nat,(Tr.fV l)[i]=k/\k<21:=λi h=>by
  have:=Tr.QH _ (aO h);exact⟨((Tr.fV l)[i]).toNat,by omega,by omega⟩
 refine A4 are Tryz.func321 ?_;refine aP (ul hv hl hI) ?_;rintro _ m1⟨v1,q1,rfl,bM,lZ⟩;obtain⟨a1,c1,rfl⟩:=lZ.il.shape;refine⟨λh=>absurd h (by(simp at h;omega)),λ_=>?_⟩;refine .mk (ι:=Nat×Value) (λi=>(Tr.fV l).length-i.1) (λ⟨i,v⟩ mm=>i<=(Tr.fV l).length/\∃q,aq mm [q,q1,m]/\Io q v (Tr.I6 t ((Tr.fV l).take i) (D.take i))) (λ⟨i,v⟩=>[(2,.c (.v (.slice aw D.length cw))),(3,.p 0 0),(9,.c (.v v)),(19,.c (.v (.slice a1 (Tr.fV l).length c1))),(20,.c (i64 (Tr.fV l).length)),(21,.c (i64 i))]) (λ_=>[(340,[.bG .u8 672 (nc t)])]) (0,.slice none 0 0) ⟨by omega,iI,bM.cA,Io.nil _⟩ ?_ ?_
 ·exact Cr
 rintro⟨i,v⟩ mm ⟨hi,q,hs,pY⟩;apply bI<;>intro h1
 ·have jc:=ah h1
  have bH:i<(Tr.fV l).length:=by omega
  have ahC:i<D.length:=by omega
  obtain⟨b,o,c',hh,hg⟩:=(lZ.il.sub (hs.sub (a:=q1))).real bH;injection hh with eK _ fN;subst eK;obtain⟨bw,ow,c',hh,LS⟩:=(hw.sub (hs.sub (a:=m))).real ahC;injection hh with eK _ fN;subst eK;have hg:=hg i bH;have LS:=LS i ahC;obtain⟨k,hk,alr⟩:=zw i bH;have NW:=Tr.Oq ht alr;have hDi:=hw.ok _ (aO ahC);have dI:=Tr.Ph t (ks:=(Tr.fV l).take i) (ds:=D.take i) (k:=(Tr.fV l)[i]) (d:=D[i]) (by simp;omega);rw[<-au bH,<-au ahC,hk,aA]at dI;have hul:=Tr.BH t (ks:=(Tr.fV l).take i) (ds:=D.take i);rw[aK]at hul;rw[hk]at hg;generalize D[i]=d at LS hDi dI
  repeat refine xS ?_
  refine⟨_,by simp only[bK,aA];exact hg,rfl,?_⟩
  repeat refine xS ?_
  refine⟨[.bG .u8 32 (nc d)],⟨show(nc d).length=32 by simp[hDi],trivial⟩,rfl,by simp only[bK,aA];exact LS,?_⟩;conv=>whnf
  simp only[aew,Ck];apply bI<;>intro h2
  ·have iD:¬Tr.jI t k=d:=by simpa using h2
   rw[if_neg iD]at dI;refine .mk _ (qa) ?_;rintro _ _⟨b2,oM,rfl,rfl⟩;refine .mk _ (Es hs oM pY (by omega)) ?_;rintro _ m2⟨v2,q2,rfl,bZ,lD⟩;refine⟨(i+1,v2),⟨by omega,q2,bZ,by rw[dI];exact lD⟩,by simp only;omega,?_⟩;exact Cr
  ·have iD:Tr.jI t k=d:=by simpa using h2
   rw[aC iD]at dI;refine⟨(i+1,v),⟨by omega,q,hs,by rw[dI];exact pY⟩,by simp only;omega,?_⟩;exact Cr
 ·have jc:=aj h1
  obtain rfl:i=(Tr.fV l).length:=by omega
  rw[aJ,NV,aJ]at pY;exact⟨v,q,rfl,hs.dV 1,pY⟩
namespace Tr
def jP(l:List Int):List Int:=(l.map gF).filter λn=>decide (0<=n)
end Tr
variable{m:aD}{v:Value}{l:List Int}
theorem EA(hv:Ia m v l)(hl:l.length<=1000000):bi tP 317 [.v v] m λr m'=>∃v' q,r=[.v v']/\aq m' [q,m]/\Io q v' (Tr.jP l):=by
 obtain⟨a,c,rfl⟩:=hv.shape;refine ub Tryz.func317 ?_;refine .mk (ι:=Nat×Value) (λi=>l.length-i.1) (λ⟨i,v⟩ mm=>i<=l.length/\∃q,aq mm [q,m]/\Io q v (Tr.jP (l.take i))) (λ⟨i,v⟩=>[(3,.c (.v v)),(7,.c (.v (.slice a l.length c))),(8,.c (i64 l.length)),(9,.c (i64 i))]) (λ_=>[]) (0,.slice none 0 0) ⟨by omega,iI,(aq.one m).cA,Io.nil _⟩ ?_ ?_
 ·exact Cr
 rintro⟨i,v⟩ mm ⟨hi,q,hs,pY⟩;apply bI<;>intro h1
 ·have jc:=ah h1
  have bH:i<l.length:=by omega
  obtain⟨b,o,c',hh,hg⟩:=hv.real bH;injection hh with eK _ fN;subst eK;have hg:=hg i bH
  have dI:Tr.jP (l.take (i+1))=Tr.jP (l.take i)++(if 0<=Tr.gF l[i]then[Tr.gF l[i]]else[]):=by
   rw[au bH,Tr.jP,Tr.jP,bD,aaB]
   congr 1
   by_cases h:0<=Tr.gF l[i]<;>simp[h]
  have hll:(Tr.jP (l.take i)).length<=i:=by
   refine bq (bC _ _) ?_;rw[aH,aK];omega
  generalize l[i]=x at hg dI
  repeat refine xS ?_
  refine⟨_,by simp only[bK,aA];exact nH hg (hs.sub),rfl,?_⟩;refine bt (wX) ?_;apply bI<;>intro h2
  ·have iD:=ah h2
   rw[aC iD]at dI;refine .mk _ (qa) ?_;rintro _ _⟨b2,oM,rfl,rfl⟩;refine .mk _ (Es hs oM pY (by omega)) ?_;rintro _ m2⟨v2,q2,rfl,bZ,lD⟩;refine⟨(i+1,v2),⟨by omega,q2,bZ,by rw[dI];exact lD⟩,by simp only;omega,?_⟩;exact Cr
  ·have iD:=aj h2
   rw[if_neg iD,cO]at dI;refine⟨(i+1,v),⟨by omega,q,hs,by rw[dI];exact pY⟩,by simp only;omega,?_⟩;exact Cr
 ·have jc:=aj h1
  obtain rfl:i=l.length:=by omega
  rw[aJ]at pY;exact⟨v,q,rfl,hs,pY⟩
def R6(n:Int):List Value:=[.int .i64 n]
theorem lf:fp R6 1:=⟨λ_=>rfl,λx u hu=>by simp[R6]at hu;subst hu;rfl,by decide⟩
abbrev af0:Ty Int:={enc:=R6,s:=1,sl:=34,el:=3,by':=8,ts:=_,ti:=_,ok:=lf,h1:=rfl,h2:=rfl,h3:=rfl,h4:=rfl,h5:=rfl,h6:=rfl,h7:=by decide,h8:=by decide}
abbrev Wa:=Gw af0
abbrev Ita:=Ga af0
abbrev Itv(x:Int):CV:=i64 x
theorem adb(l:List Int):l.flatMap R6=ic l:=by induction l with
 |nil=>rfl
 |cons x l ih=>rw[dw,ih];rfl
theorem Io.it(h:Io m v l):Wa m v l:=by unfold Wa Gw;rw[adb];exact h
theorem Gw.io(h:Wa m v l):Io m v l:=by unfold Wa Gw at h;rw[adb]at h;exact h
variable{p:aD}{b:Nat}
theorem Wa.store{o n c k:Nat}(x:Int)(h:Wa p (.slice (some ⟨b,o,none⟩) n c) l)(hk:k<l.length):
  ∃arr,p b=some (.cells arr 3 (0,0))/\o+k<arr.size/\Wa (p.set b (.cells (arr.setIfInBounds (o+k) (.int .i64 x)) 3 (0,0))) (.slice (some ⟨b,o,none⟩) n c) (l.set k x):=by
 obtain⟨arr,h1,h2,h3⟩:=mf.store (k:=k) (x:=.int .i64 x) h.io (by simpa [ic]using hk) rfl;refine⟨arr,h1,h2,Io.it ?_⟩;rw[show(ic l).set k (.int .i64 x)=ic (l.set k x) by simp[ic]]at h3;exact h3
variable{E:List Int}{F:Nat}
theorem JG{p:Int->Bool}(hv:Ita m v E)(hF:∀e∈E,eN tP F [Itv e,cx b] m [bR (p e)])(hl:E.length<=100000000):eN tP 229 [.v v,(l5 F b)] m [i64 (sH p E)]:=by
 obtain⟨a,c,rfl⟩:=hv.shape;refine ub Tryz.func229 ?_;refine .mk (ι:=Nat) (λi=>E.length-i) (λi mm=>i<=E.length/\(∀x∈E.take i,p x=false)/\mm=m) (λi=>[(0,.c (.v (.slice a E.length c))),(1,.c (l5 F b)),(7,.c (i64 E.length)),(8,.c (i64 i))]) (λ_=>[]) 0 ⟨by omega,by simp,rfl⟩ ?_ ?_
 ·exact Cr
 rintro i mm⟨hi,cM,he⟩;subst mm;apply bI<;>intro h
 ·have h':=ah h
  have bH:i<E.length:=by omega
  obtain⟨bl,ol,c',hh,hg⟩:=hv.real bH;injection hh with eK _ fN;subst eK;have hg:=hg i bH
  repeat refine xS ?_
  refine⟨.int .i64 E[i],by have:=fZ (j:=0) (hg) rfl;simpa [bK]using this,rfl,?_⟩;refine bt ((hF E[i] (aO bH))) ?_;have dI:E.take (i+1)=E.take i++[E[i]]:=au bH;apply bI<;>intro h
  ·exact⟨by rw[tW bH cM h],rfl⟩
  ·refine⟨i+1,⟨by omega,λx hx=>?_,rfl⟩,by omega,?_⟩
   ·rw[dI]at hx
    rcases aR.1 hx with hx|hx
    ·exact cM x hx
    ·rw[aL.1 hx];exact h
   ·exact Cr
 ·have h':=aj h
  obtain rfl:i=E.length:=by omega
  rw[aJ]at cM;exact⟨by rw[nL cM],rfl⟩
theorem JF{b2:Nat}{p:Int->Bool}(hv:Ita m v E)(hF:∀e∈E,eN tP F [Itv e,cx b,cx b2] m [bR (p e)])(hl:E.length<=100000000):eN tP 229 [.v v,(Xn F b b2)] m [i64 (sH p E)]:=by
 obtain⟨a,c,rfl⟩:=hv.shape;refine ub Tryz.func229 ?_;refine .mk (ι:=Nat) (λi=>E.length-i) (λi mm=>i<=E.length/\(∀x∈E.take i,p x=false)/\mm=m) (λi=>[(0,.c (.v (.slice a E.length c))),(1,.c (Xn F b b2)),(7,.c (i64 E.length)),(8,.c (i64 i))]) (λ_=>[]) 0 ⟨by omega,by simp,rfl⟩ ?_ ?_
 ·exact Cr
 rintro i mm⟨hi,cM,he⟩;subst mm;apply bI<;>intro h
 ·have h':=ah h
  have bH:i<E.length:=by omega
  obtain⟨bl,ol,c',hh,hg⟩:=hv.real bH;injection hh with eK _ fN;subst eK;have hg:=hg i bH
  repeat refine xS ?_
  refine⟨.int .i64 E[i],by have:=fZ (j:=0) (hg) rfl;simpa [bK]using this,rfl,?_⟩;refine bt ((hF E[i] (aO bH))) ?_;have dI:E.take (i+1)=E.take i++[E[i]]:=au bH;apply bI<;>intro h
  ·exact⟨by rw[tW bH cM h],rfl⟩
  ·refine⟨i+1,⟨by omega,λx hx=>?_,rfl⟩,by omega,?_⟩
   ·rw[dI]at hx
    rcases aR.1 hx with hx|hx
    ·exact cM x hx
    ·rw[aL.1 hx];exact h
   ·exact Cr
 ·have h':=aj h
  obtain rfl:i=E.length:=by omega
  rw[aJ]at cM;exact⟨by rw[nL cM],rfl⟩
theorem XA{o n c:Nat}{arr:Array Value}{te:TypeId}(hb:m b=some (.cells arr te))(hn:0<n)(jH:o+n*1<=arr.size):
  bF tP (.builtin .clear [34]) [.v (.slice (some ⟨b,o,none⟩) n c)] m λr m'=>r=[]/\∃zs,zs.length=n*1/\(∀u∈zs,u.oneCell'=true)/\m'=m.set b (.cells (arr.toList.take o++zs++arr.toList.drop (o+n*1)).toArray te):=by
 obtain⟨ti,h1,h2⟩:∃ti,tt.get 34=some ti/\ti.k= .slice 3:=⟨_,rfl,rfl⟩;obtain⟨ei,g1,g2,g3,g4⟩:∃ti,tt.get 3=some ti/\ti.size=1/\ti.bytes=8/\LB.cz ti.zero=R6 0:=⟨_,rfl,rfl,rfl,rfl⟩;have:=qw (P:=tP) eR h1 h2 g1 (by rw[g4,g2];rfl) (by rw[g4];exact lf.one _) (c:=c) hb hn (by rw[g2];exact jH);rw[g2]at this;exact this
variable{mm:aD}
theorem Iz{pr:Int->Bool}(hs:aq mm [p,m])(hv:Wa p v E)(hF:∀m',cL m m'->∀e∈E,eN tP F [Itv e,cx b] m' [bR (pr e)])(hl:E.length<=10000000):
  bi tP 143 [.v v,(l5 F b)] mm λr m'=>∃v' p',r=[.v v']/\aq m' [p',m]/\Wa p' v' (E.filter λe=>!pr e):=by
 obtain⟨a,c,rfl⟩:=hv.el.shape;refine ub Tryz.func143 ?_;refine bt (JG (p:=pr) (hv.el.ea.sub (hs.sub)) (hF _ (hs.sub)) (by omega)) ?_;rcases lY pr E with⟨e1,e2⟩|⟨i0,Ja,e1,e2,e3⟩
 ·rw[e1]
  refine xY ?_;refine⟨_,p,rfl,hs,?_⟩;have:E.filter (λe=>!pr e)=E:=bY.2 λx hx=>by rw[e2 x hx];rfl
  rw[this];exact hv
 rw[e1];obtain⟨bl,ol,c',hh,hg⟩:=hv.el.ea.real Ja;injection hh with eK _ fN;subst eK;have ga:((i0:Int)== -1)=false:=by rw[qO];exact aY (by omega)
 refine⟨λh=>absurd h (by rw[ga];decide),λ_=>?_⟩;have ew:IntKind.i64.wrap ((i0:Int)+1)=((i0+1:Nat):Int):=qJ (by omega);conv=>whnf
 rw[ew]
 refine .mk (ι:=Nat×Nat) (λi=>E.length-i.2) (λ⟨i,j⟩ mm=>∃p Z,aq mm [p,m]/\Wa p (.slice (some ⟨bl,ol,none⟩) E.length c) Z/\Z.take i=(E.take j).filter (λe=>!pr e)/\Z.drop j=E.drop j/\i<j/\j<=E.length)
  (λ⟨i,j⟩=>[(0,.c (.v (.slice (some ⟨bl,ol,none⟩) E.length c))),(1,.c (l5 F b)),(5,.c (i64 i)),(6,.c (i64 j))]) (λ_=>[]) (i0,i0+1) ⟨p,E,hs,hv,?_,rfl,by omega,by omega⟩ ?_ ?_
 ·rw[au Ja,aaB]
  have:(E.take i0).filter (λe=>!pr e)=E.take i0:=bY.2 λx hx=>by rw[e3 x hx];rfl
  rw[this];simp[e2]
 ·exact Cr
 rintro⟨i,j⟩ mm ⟨p,Z,hs,hZ,ht,hd,ZD,hj⟩;have hZl:Z.length=E.length:=(lf.row hZ).choose_spec.2.1;apply bI<;>intro h
 ·have h':=ah h
  have bH:j<E.length:=by omega
  have hZE:Z[j]'(by omega)=E[j]:=by
   have:=be (λl:List Int=>l[0]?) hd;simp only[cT,gO]at this;rw[az (by omega),az bH]at this;exact eL this
  obtain⟨OY,ol',c',hh,hg⟩:=hZ.el.ea.real (i:=j) (by omega);injection hh with eK _ fN;injection eK with eK;injection eK with kW I8;subst kW;subst I8;have js:=hg j (by omega);have dI:E.take (j+1)=E.take j++[E[j]]:=au bH
  have LW:Z.drop (j+1)=E.drop (j+1):=by
   rw[<-dU,<-dU,hd]
  rw[hZE]at js;have hxm:E[j]∈E:=aO bH;generalize E[j]=x at js dI hxm
  repeat refine xS ?_
  refine⟨.int .i64 x,by have:=fZ (j:=0) (js.sub (hs.sub)) rfl;simpa [bK]using this,rfl,?_⟩;refine bt ((hF _ (hs.sub) x hxm)) ?_
  cases hp:pr x with
  |true=>
   refine xN ?_;refine⟨(i,j+1),⟨p,Z,hs,hZ,by rw[dI,aaB,ht];simp[hp],LW,by omega,by omega⟩,by simp only;omega,?_⟩;exact Cr
  |false=>
   refine xY ?_
   repeat refine xS ?_
   obtain⟨arr,k1,k2,k3⟩:=Wa.store (k:=i) x hZ (by omega);refine⟨arr,_,_,hs.sub (a:=p) (by simp) _ _ k1,⟨by simpa [bK]using k2,by simp⟩,?_⟩;have bZ:=hs.set k1 (.cells (arr.setIfInBounds (ol+i) (.int .i64 x)) 3);simp only[bK,aA];have U6:IntKind.i64.wrap ((i:Int)+1)=((i+1:Nat):Int):=qJ (by omega);refine⟨(i+1,j+1),⟨_,Z.set i x,bZ,k3,?_,?_,by omega,by omega⟩,by simp only;omega,?_⟩
   ·rw[dI,aaB,<-ht,au (by rw[fc];omega),jq,qQ (by omega)]
    simp[hp]
   ·rw[km (by omega)];exact LW
   ·exact Cr
 ·have h':=aj h
  obtain rfl:j=E.length:=by omega
  rw[aJ]at ht;obtain⟨arr,k1,k2,k3,k4,k5⟩:=lf.row hZ
  repeat refine xS ?_
  intro o' q1 q2;have ho:o'=ol+i*1:=by simpa using q1 (by omega)
  have ei:(i:Int).toNat=i:=by omega
  subst ho;conv=>whnf
  rw[ei];refine .mk _ (XA (hs.sub (a:=p) (by simp) _ _ k1) (by omega) (by omega)) ?_;rintro _ m'⟨rfl,zs,QY,hz2,rfl⟩;have bZ:=hs.set k1 (.cells (arr.toList.take (ol+i*1)++zs++arr.toList.drop (ol+i*1+(E.length-i)*1)).toArray 3)
  repeat refine xS ?_
  intro o' q1 q2;obtain rfl:o'=ol:=by have:=q1 (by omega);simpa [bK]using this
  conv=>whnf
  rw[ei];refine⟨_,_,rfl,bZ,?_⟩;rw[<-ht];refine lf.mk' (aD.bg ..) (by rw[aK];omega) (by omega) ?_ λj u hu=>?_
  ·simp only[dM,ax,aK,cC,cq,QY];omega
  ·have EN:=(aQ.1 hu).1
   rw[lf.wC,aK]at EN;have Re:o'+j<o'+i*1:=by have:=cS 1 (y8 i Z.length);omega
   rw[<-lf.take,bN]at hu
   split at hu
   ·have:=k5 j u hu
    rw[bz,aX,aT (by rw[aK,cq];omega),bN,aC Re,bU];exact this
   ·cases hu
theorem Iy{b2:Nat}{pr:Int->Bool}(hs:aq mm [p,m])(hv:Wa p v E)(hF:∀m',cL m m'->∀e∈E,eN tP F [Itv e,cx b,cx b2] m' [bR (pr e)])(hl:E.length<=10000000):
  bi tP 143 [.v v,(Xn F b b2)] mm λr m'=>∃v' p',r=[.v v']/\aq m' [p',m]/\Wa p' v' (E.filter λe=>!pr e):=by
 obtain⟨a,c,rfl⟩:=hv.el.shape;refine ub Tryz.func143 ?_;refine bt (JF (p:=pr) (hv.el.ea.sub (hs.sub)) (hF _ (hs.sub)) (by omega)) ?_;rcases lY pr E with⟨e1,e2⟩|⟨i0,Ja,e1,e2,e3⟩
 ·rw[e1]
  refine xY ?_;refine⟨_,p,rfl,hs,?_⟩;have:E.filter (λe=>!pr e)=E:=bY.2 λx hx=>by rw[e2 x hx];rfl
  rw[this];exact hv
 rw[e1];obtain⟨bl,ol,c',hh,hg⟩:=hv.el.ea.real Ja;injection hh with eK _ fN;subst eK;have ga:((i0:Int)== -1)=false:=by rw[qO];exact aY (by omega)
 refine⟨λh=>absurd h (by rw[ga];decide),λ_=>?_⟩;have ew:IntKind.i64.wrap ((i0:Int)+1)=((i0+1:Nat):Int):=qJ (by omega);conv=>whnf
 rw[ew]
 refine .mk (ι:=Nat×Nat) (λi=>E.length-i.2) (λ⟨i,j⟩ mm=>∃p Z,aq mm [p,m]/\Wa p (.slice (some ⟨bl,ol,none⟩) E.length c) Z/\Z.take i=(E.take j).filter (λe=>!pr e)/\Z.drop j=E.drop j/\i<j/\j<=E.length)
  (λ⟨i,j⟩=>[(0,.c (.v (.slice (some ⟨bl,ol,none⟩) E.length c))),(1,.c (Xn F b b2)),(5,.c (i64 i)),(6,.c (i64 j))]) (λ_=>[]) (i0,i0+1) ⟨p,E,hs,hv,?_,rfl,by omega,by omega⟩ ?_ ?_
 ·rw[au Ja,aaB]
  have:(E.take i0).filter (λe=>!pr e)=E.take i0:=bY.2 λx hx=>by rw[e3 x hx];rfl
  rw[this];simp[e2]
 ·exact Cr
 rintro⟨i,j⟩ mm ⟨p,Z,hs,hZ,ht,hd,ZD,hj⟩;have hZl:Z.length=E.length:=(lf.row hZ).choose_spec.2.1;apply bI<;>intro h
 ·have h':=ah h
  have bH:j<E.length:=by omega
  have hZE:Z[j]'(by omega)=E[j]:=by
   have:=be (λl:List Int=>l[0]?) hd;simp only[cT,gO]at this;rw[az (by omega),az bH]at this;exact eL this
  obtain⟨OY,ol',c',hh,hg⟩:=hZ.el.ea.real (i:=j) (by omega);injection hh with eK _ fN;injection eK with eK;injection eK with kW I8;subst kW;subst I8;have js:=hg j (by omega);have dI:E.take (j+1)=E.take j++[E[j]]:=au bH
  have LW:Z.drop (j+1)=E.drop (j+1):=by
   rw[<-dU,<-dU,hd]
  rw[hZE]at js;have hxm:E[j]∈E:=aO bH;generalize E[j]=x at js dI hxm
  repeat refine xS ?_
  refine⟨.int .i64 x,by have:=fZ (j:=0) (js.sub (hs.sub)) rfl;simpa [bK]using this,rfl,?_⟩;refine bt ((hF _ (hs.sub) x hxm)) ?_
  cases hp:pr x with
  |true=>
   refine xN ?_;refine⟨(i,j+1),⟨p,Z,hs,hZ,by rw[dI,aaB,ht];simp[hp],LW,by omega,by omega⟩,by simp only;omega,?_⟩;exact Cr
  |false=>
   refine xY ?_
   repeat refine xS ?_
   obtain⟨arr,k1,k2,k3⟩:=Wa.store (k:=i) x hZ (by omega);refine⟨arr,_,_,hs.sub (a:=p) (by simp) _ _ k1,⟨by simpa [bK]using k2,by simp⟩,?_⟩;have bZ:=hs.set k1 (.cells (arr.setIfInBounds (ol+i) (.int .i64 x)) 3);simp only[bK,aA];have U6:IntKind.i64.wrap ((i:Int)+1)=((i+1:Nat):Int):=qJ (by omega);refine⟨(i+1,j+1),⟨_,Z.set i x,bZ,k3,?_,?_,by omega,by omega⟩,by simp only;omega,?_⟩
   ·rw[dI,aaB,<-ht,au (by rw[fc];omega),jq,qQ (by omega)]
    simp[hp]
   ·rw[km (by omega)];exact LW
   ·exact Cr
 ·have h':=aj h
  obtain rfl:j=E.length:=by omega
  rw[aJ]at ht;obtain⟨arr,k1,k2,k3,k4,k5⟩:=lf.row hZ
  repeat refine xS ?_
  intro o' q1 q2;have ho:o'=ol+i*1:=by simpa using q1 (by omega)
  have ei:(i:Int).toNat=i:=by omega
  subst ho;conv=>whnf
  rw[ei];refine .mk _ (XA (hs.sub (a:=p) (by simp) _ _ k1) (by omega) (by omega)) ?_;rintro _ m'⟨rfl,zs,QY,hz2,rfl⟩;have bZ:=hs.set k1 (.cells (arr.toList.take (ol+i*1)++zs++arr.toList.drop (ol+i*1+(E.length-i)*1)).toArray 3)
  repeat refine xS ?_
  intro o' q1 q2;obtain rfl:o'=ol:=by have:=q1 (by omega);simpa [bK]using this
  conv=>whnf
  rw[ei];refine⟨_,_,rfl,bZ,?_⟩;rw[<-ht];refine lf.mk' (aD.bg ..) (by rw[aK];omega) (by omega) ?_ λj u hu=>?_
  ·simp only[dM,ax,aK,cC,cq,QY];omega
  ·have EN:=(aQ.1 hu).1
   rw[lf.wC,aK]at EN;have Re:o'+j<o'+i*1:=by have:=cS 1 (y8 i Z.length);omega
   rw[<-lf.take,bN]at hu
   split at hu
   ·have:=k5 j u hu
    rw[bz,aX,aT (by rw[aK,cq];omega),bN,aC Re,bU];exact this
   ·cases hu
theorem ud(hv:Ia m v l)(hl:l.length<=1000000):bi tP 34 [.v v] m λr m'=>∃v' p,r=[.v v']/\aq m' [p,m]/\Io p v' l:=by
 obtain⟨a,c,rfl⟩:=hv.shape
 cases a with
 |none=>
  have hE:l=[]:=by
   rcases Nat.eq_zero_or_pos l.length with h|h
   ·exact cB h
   ·obtain⟨b,o,c',e,_⟩:=hv.real h
    cases e
  subst hE;refine ub Tryz.func34 ?_;refine xY ?_;exact⟨_,iI,rfl,(aq.one m).cA,Io.nil _⟩
 |some a=>
  refine ub Tryz.func34 ?_;refine xN ?_;refine .mk _ (ajT (t:=af0)) ?_;rintro _ _⟨b,hb,rfl,rfl⟩;refine .mk _ (zQ (i:=0) ((aq.one m).new hb _) rfl (Gw.blk0 (t:=af0) (aG ..)).io (hv.sub (aD.bT _ hb)) (by simp;omega)) ?_;rintro _ m'⟨v',p,rfl,hs,pY⟩;exact⟨v',p,rfl,hs,pY⟩
def pI(L:List Kd)(part:Int)(l:List Int):List Kd:=iy [] ((Tr.jP l).flatMap λn=>K9 L part n)
theorem FY:∀{L M:List Kd},s6 M->s6 L->(∀x∈M,x∈L)->M.Sublist L
 |L,[],_,_,_=>List.nil_sublist _
 |[],y::M,_,_,h=>by cases h y (by simp)
 |x::L,y::M,hM,hL,h=>by
  obtain⟨m1,m2⟩:=bh.1 hM;obtain⟨l1,l2⟩:=bh.1 hL;by_cases e:y=x
  ·subst e
   refine(FY m2 l2 λz hz=>?_).cons_cons y;rcases aU.1 (h z (by simp[hz]))with rfl|h'
   ·have:=m1 z hz
    rw[oa]at this;cases this
   ·exact h'
  ·refine(FY hM l2 λz hz=>?_).cons x
   rcases aU.1 (h z hz)with rfl|h'
   ·rcases aU.1 hz with rfl|hz'
    ·exact absurd rfl e
    ·have hy:y∈L:=(aU.1 (h y (by simp))).resolve_left e
     have h1:=l1 y hy;have h2:=m1 z hz';rw[tL h1]at h2;cases h2
   ·exact h'
theorem uM{L:List Kd}{k:ByteArray}{c:Ct}{y:Kd}(h:y∈iz L k c):y∈L\/y=(k,c):=by
 have hi:∀L:List Kd,y∈sG k c L->y∈L\/y=(k,c):=λL=>by
  induction L with
  |nil=>intro h;simp[sG]at h;exact .inr h
  |cons x L ih=>
   intro h;rw[sG]at h
   split at h
   ·rcases aU.1 h with h|h
    ·exact .inr h
    ·exact .inl h
   ·rcases aU.1 h with h|h
    ·exact .inl (by simp[h])
    ·exact(ih h).imp (λh=>by simp[h]) id
 unfold iz at h
 split at h
 ·obtain⟨x,hx,e⟩:=aV.1 h
  split at e
  ·exact .inr e.symm
  ·exact .inl (e▸hx)
 ·exact hi L h
theorem Kq{y:Kd}:∀{R L:List Kd},y∈iy L R->y∈L\/y∈R
 |[],L,h=>.inl h
 |x::R,L,h=>by
  rcases Kq (R:=R) (L:=iz L x.1 x.2) h with h|h
  ·exact(uM h).imp id λh=>by simp[h]
  ·exact .inr (by simp[h])
theorem BU(L:List Kd)(part leaf:Int):(K9 L part leaf).Sublist L:=by
 unfold K9;split
 ·exact List.nil_sublist _
 ·exact uf ..
theorem IK{L:List Kd}(h:cX L=true)(part:Int)(l:List Int):(pI L part l).Sublist L:=
 FY (rJ adl _) (vV.1 h).2.1 λx hx=>by
  rcases Kq hx with h|h
  ·cases h
  ·obtain⟨n,_,hn⟩:=iu.1 h
   exact(BU L part n).subset hn
theorem aeb(L:List Kd)(part:Int):∀T:List Int,(T.flatMap λn=>K9 L part n).length<=L.length*T.length
 |[]=>by simp
 |n::T=>by
  have h1:=aeb L part T;have h2:=(BU L part n).length_le;rw[dw,ax,bd,Nat.mul_succ];omega
section
variable {m:aD}{v:Value}{L:List Kd}{part:Int}
theorem VP{w:Value}{l:List Int}(hS:cK m)(h_:Bz m v L)(hL:L.length<=2000)(hw:Ia m w l)(hl:l.length<=16):bi tP 238 [.v v,i64 part,.v w] m λr m'=>∃v' p,r=[.v v']/\aq m' [p,m]/\lu p v' (pI L part l):=by
 refine ub Tryz.func238 ?_;refine aP (EA hw (by omega)) ?_;rintro _ m1⟨vl,q0,rfl,LK,NP⟩;have ZA:(Tr.jP l).length<=16:=bq (bC _ _) (by rw[aH];exact hl);unfold pI;generalize Tr.jP l=T at NP ZA;obtain⟨a,c,rfl⟩:=NP.il.ia.shape;have NT:cL m m1:=LK.sub (by simp);have hT:=NP.il.ia.sub (LK.sub);refine .mk (ι:=Nat×Value) (λi=>T.length-i.1) (λ⟨i,y⟩ mm=>i<=T.length/\∃g q,aq mm [g,q]/\cL m1 q/\lu g y (iy [] ((T.take i).flatMap λn=>K9 L part n))) (λ⟨i,y⟩=>[(0,.c (.v v)),(1,.c (i64 part)),(7,.c (.v y)),(13,.c (.v (.slice a T.length c))),(14,.c (i64 T.length)),(15,.c (i64 i))]) (λ_=>[]) (0,.slice none 0 0) ⟨by omega,iI,m1,(aq.one m1).cA,cL.refl _,lu.nil _⟩ ?_ ?_
 ·exact Cr
 rintro⟨i,y⟩ mm ⟨hi,g,q,hs,hsq,hg⟩;apply bI<;>intro h
 ·have h':=ah h
  have bH:i<T.length:=by omega
  obtain⟨bl,ol,c',hh,U7⟩:=(hT.sub (hsq.trans (hs.sub))).real bH;injection hh with eK _ fN;have wA:=U7 i bH
  have vd:(T.take (i+1)).flatMap (λn=>K9 L part n)=(T.take i).flatMap (λn=>K9 L part n)++K9 L part T[i]:=by
   rw[au bH,dx];simp
  have Fc:((T.take i).flatMap λn=>K9 L part n).length<=2000*16:=bq (aeb L part _) (Nat.mul_le_mul hL (by rw[aK];omega));generalize T[i]=n at wA vd;conv=>whnf
  simp only[eK]
  repeat refine xS ?_
  refine⟨_,wA,rfl,?_⟩;refine aP (bi.at (i:=1) hs rfl (SF (part:=part) (leaf:=n) (hS.sub (NT.trans hsq)) (h_.sub (NT.trans hsq)))) ?_;rintro _ m2⟨q1,⟨vb,rfl,hkb,bM⟩,bZ⟩;have bZ:aq m2 [g,q1]:=bZ;have hBl:=bq (BU L part n).length_le hL;have hBa:∀x∈K9 L part n,jg x:=λx hx=>h_.a x ((BU L part n).subset hx);generalize K9 L part n=B at*;generalize (T.take i).flatMap (λn=>K9 L part n)=A at*;obtain⟨R,hR,hK⟩:=hkb;obtain⟨ab,cb,rfl⟩:=hR.shape;have hlen:=hK.len;refine .mk (ι:=Nat×Value) (λj=>R.length-j.1) (λ⟨j,y⟩ mm=>j<=R.length/\∃g,aq mm [g,q1]/\lu g y (iy (iy [] A) (B.take j))) (λ⟨j,y⟩=>[(0,.c (.v v)),(1,.c (i64 part)),(7,.c (.v y)),(13,.c (.v (.slice (some ⟨bl,ol,none⟩) T.length c))),(14,.c (i64 T.length)),(15,.c (i64 i)),(22,.c (.v (.slice ab R.length cb))),(23,.c (i64 R.length)),(24,.c (i64 j))]) (λ_=>[]) (0,y) ⟨by omega,g,bZ,by simpa [iy]using hg⟩ ?_ ?_
  ·conv=>whnf
   repeat (refine And.intro (by first|with_reducible rfl|(first|exact eK.symm▸rfl)|exact cI (wi)|exact wi|rfl) ?_;conv=>whnf)
   exact xT
  rintro⟨j,y⟩ mm ⟨hj,g,hs,hg⟩;apply bI<;>intro h
  ·have h':=ah h
   have U3:j<R.length:=by omega
   obtain⟨br,orr,c'',hh,Xe⟩:=(hR.sub (hs.sub (a:=q1))).real U3;injection hh with qn _ wo;have js:=Xe j U3;have hx:=hK.je j U3 (by omega);have LX:=hBa _ (aO (show j<B.length by omega));have dI:B.take (j+1)=B.take j++[B[j]]:=au (by omega);have hol:=uL (iy [] A) (B.take j);have auj:=uL [] A;rw[aK]at hol;rw[<-el8 hx]at js;have zu:=hx.len;have FO:=hx.e;have OQ:=hx.u8;generalize B[j]'(by omega)=x at*;generalize R[j]=r at*;rw[zu]at FO;obtain⟨xk,xu,xE⟩:=x;obtain⟨rk,ru,ra,rn,rc⟩:=r;simp only at js LX FO OQ;have ml:xE.length<=1000:=LX.n;conv=>whnf
   simp only[qn]
   repeat refine xS ?_
   refine⟨[.one (.string xk),.bG .u64 8 xu,.one (.slice ra xE.length rc)],⟨rfl,OQ,rfl,trivial⟩,rfl,by simp only[bK,aA];exact js,?_⟩;refine aP (GS hs hg (FO.sub (hs.sub (a:=q1))) OQ (by simp only[cW]at auj;omega) (by omega)) ?_;rintro _ m3⟨y',g',rfl,qW,js⟩;refine⟨(j+1,y'),⟨by omega,g',qW,by rw[dI,ri];exact js⟩,by simp only;omega,?_⟩;conv=>whnf
   repeat (refine And.intro (by first|with_reducible rfl|(first|exact cI (LO (by omega))|exact qn.symm▸rfl)|exact cI (wi)|exact wi|rfl) ?_;conv=>whnf)
   exact xT
  have h':=aj h;obtain rfl:j=R.length:=by omega
  rw[hlen,aJ,<-ri]at hg;refine⟨(i+1,y),⟨by omega,g,q1,hs,hsq.trans bM,by rw[vd];exact hg⟩,by simp only;omega,?_⟩;exact Cr
 have h':=aj h;obtain rfl:i=T.length:=by omega
 rw[aJ]at hg;exact⟨y,g,rfl,(aq.Ci (hs.ir [1,0]) (NT.trans hsq)).ir [1,0],hg⟩
end
def Aa(x:kl)(L:List Kd):gX:=⟨x.round,x.tg,x.jV,x.id,x.part,if x.round=1 then Tr.jI (lN L x.part) 0 else fX,x.pl,[],if x.round=3 then pI L x.part x.pl else[]⟩
def E6(x:kl)(L:List Kd):gX×Int:=if gx x=false\/cX L=false then(fP,3)else if x.round=0 then(fP,7)else(Aa x L,0)
def Lq(x:kl)(y:gX):Bool:=(y.fr==x.jV)&&((y.qe==x.tg)&&((y.qA==x.id)&&(y.part==x.part)))
def atF(x:kl):List Int:=if x.round=1 then[0]else x.pl
def z1(t:List Nat)(l:List Int)(D:List (List Nat)):List Int:=if (Tr.fV l).length=D.length then Tr.I6 t (Tr.fV l) D else[]
def jk(x:kl)(L:List Kd)(y:gX)(bQ:Int):kl×Bool:=
 if x.round=1/\y.kind=4 then(Bp x,true)
 else if x.round=3/\y.kind=6/\y.pl=x.pl then(Bp x,true)
 else if y.kind≠5\/(x.round≠1/\x.round≠2)\/y.pl≠atF x then(oW,false)
 else if z1 (lN L x.part) y.pl y.dg=[]then(Bp x,true)
 else(vT x (x.round+1) (z1 (lN L x.part) y.pl y.dg) bQ,true)
def Ca(x:kl)(L:List Kd)(y:gX)(bQ:Int):Int:=
 if gx x=false\/cX L=false\/dR y=false then 3
 else if ql bQ=false then 1
 else if x.round=0\/Lq x y=false then 7
 else if (jk x L y bQ).2=false then 7 else 0
theorem Hf(m:aD):gy m fP ⟨(none,0),(none,0),(none,0)⟩:=⟨rfl,(Io.nil m).il.ia,(I0.nil m).dl.da,lu.nil m⟩
theorem De{x:kl}(h:gx x=true):(1<=x.tg/\x.tg<=8)/\(1<=x.jV/\x.jV<=8)/\x.tg≠x.jV/\(1<=x.id/\x.id<=1099511627776)/\(0<=x.part/\x.part<=7)/\(0<=x.round/\x.round<=3)/\pW x.round x.pl=true/\x.gD.ok=true/\(0<=x.Oo/\x.Oo<=2199023255552):=by
 simp only[gx,aB,B6,bne_iff_ne]at h;obtain⟨⟨h1,h2,h3⟩,h4,h5,h6,h7,h8,h9⟩:=h;exact⟨h1,h2,h3,h4,h5,h6,h7,h8,h9⟩
theorem x6{n:Int}(h:pW n l=true)(hn:0<=n):l.length<=16:=by
 unfold pW at h
 split at h
 ·have:=ah h;omega
 ·exact(rM h (by omega)).2.2.1
theorem aq.lB{q:aD}(h:aq mm [p,q])(hs:cL m q):aq mm [p,m]:=(aq.Ci (h.ir [1,0]) hs).ir [1,0]
section
variable {m:aD}{x:kl}{s:CN}{v:Value}{L:List Kd}
theorem xI(L:List Kd)(part:Int):Tr.Ok (lN L part):=Tr.akC _
theorem abL(hS:cK m)(hx:qZ m x s)(hv:Bz m v L):
  bi tP 153 [uR x s,.v v] m λr m'=>∃s' p,r=[mT (E6 x L).1 s',i64 (E6 x L).2]/\aq m' [p,m]/\gy p (E6 x L).1 s':=by
 have hF:E6 x L=if gx x=false\/cX L=false then(fP,3)else if x.round=0 then(fP,7)else(Aa x L,0):=rfl
 generalize E6 x L=y at*
 have uK:∀e,y=(fP,e)->∀mm,cL m mm->∃s' p,[mT fP ⟨(none,0),(none,0),(none,0)⟩,i64 e]=[mT y.1 s',i64 y.2]/\aq mm [p,m]/\gy p y.1 s':=λe h mm hs=>by
  rw[h];exact⟨_,iI,rfl,((aq.one m).grow hs).cA,Hf _⟩
 refine A4 awI Tryz.func153 ?_;refine bt (tJ hx) ?_;by_cases h1:gx x=true;rotate_left
 ·have h1:gx x=false:=by simpa using h1
  rw[h1];refine xY ?_;exact uK 3 (by rw[hF,aC (.inl h1)]) m (cL.refl _)
 rw[h1];refine xN ?_;refine aP (iC hS hv.v hv.a (by have:=hv.l;omega)) ?_;rintro _ m1⟨rfl,bM⟩;by_cases h2:cX L=true;rotate_left
 ·have h2:cX L=false:=by simpa using h2
  rw[h2];refine xY ?_;exact uK 3 (by rw[hF,aC (.inr h2)]) m1 bM
 rw[h2];refine xN ?_;conv=>whnf
 rw[if_neg (by simp[h1,h2])]at hF;apply bI<;>intro h
 ·have h3:x.round=0:=by simpa using h
  exact uK 7 (by rw[hF,aC h3]) m1 bM
 have h3:¬x.round=0:=by simpa using h
 rw[if_neg h3]at hF;subst hF;have zw:=De h1;have CU:=x6 zw.2.2.2.2.2.2.1 (by omega);refine aP (ud (hx.pl.sub bM) (by omega)) ?_;rintro _ m2⟨v2,p2,rfl,bZ,lE⟩
 try refine⟨λ_ h=>(by cases h),?_⟩
 obtain⟨a2,c2,rfl⟩:=lE.il.ia.shape;have vD:cL m m2:=bM.trans (bZ.sub);apply bI<;>intro h
 ·have h4:x.round=1:=by simpa using h
  refine aP (AQ (part:=x.part) (hS.sub vD) (hv.sub vD)) ?_;rintro _ m3⟨rfl,dy⟩;have e:List.take 0 (List.replicate 32 (0:Int))++(List.take (31+1) (nc (lN L x.part))++List.drop (0+(31+1)) (List.replicate 32 0))=nc (Tr.jI (lN L x.part) 0):=by simp[Tr.jI,nc]
  have eS:Aa x L=⟨x.round,x.tg,x.jV,x.id,x.part,Tr.jI (lN L x.part) 0,x.pl,[],[]⟩:=by rw[Aa,aC h4,if_neg (by omega)]
  have hlen:=(xI L x.part).len;rw[eS];refine⟨⟨(a2,c2),(none,0),(none,0)⟩,p2,by simp only[mT,gX.L,e];rfl,aq.lB (bZ.grow dy) bM,⟨?_,lE.il.ia,(I0.nil _).dl.da,lu.nil _⟩⟩;simp[Tr.jI,hlen]
 have h4:¬x.round=1:=by simpa using h
 apply bI<;>intro h
 ·have h5:x.round=3:=by simpa using h
  refine aP (VP (part:=x.part) (hS.sub vD) (hv.sub vD) (aaV h2) (hx.pl.sub vD) CU) ?_;rintro _ m3⟨v3,p3,rfl,dy,HQ⟩;obtain⟨a3,c3,rfl⟩:=HQ.shape;have eS:Aa x L=⟨x.round,x.tg,x.jV,x.id,x.part,fX,x.pl,[],pI L x.part x.pl⟩:=by rw[Aa,if_neg h4,aC h5]
  rw[eS];obtain⟨j,k1,k2,eP⟩:=aq.sK (aq.jN (a:=[p3]) dy bZ);exact⟨⟨(a2,c2),(none,0),(a3,c3)⟩,j,rfl,(aq.Ci (eP.ir [1,0]) bM).ir [1,0],⟨rfl,lE.il.ia.sub k2,(I0.nil _).dl.da,HQ.sub k1⟩⟩
 have h5:¬x.round=3:=by simpa using h
 have eS:Aa x L=⟨x.round,x.tg,x.jV,x.id,x.part,fX,x.pl,[],[]⟩:=by rw[Aa,if_neg h4,if_neg h5]
 rw[eS];exact⟨⟨(a2,c2),(none,0),(none,0)⟩,p2,rfl,aq.lB bZ bM,⟨rfl,lE.il.ia,(I0.nil _).dl.da,lu.nil _⟩⟩
end
theorem aq.ad9{k l:List aD}(h:aq mm (k++l)):∃j,aq j k/\aq mm (j::l):=by
 have h2:(k++l).Pairwise Dj:=h.2;obtain⟨p1,p2,p3⟩:=cm.1 h2;refine⟨gY k,⟨λ_ _ h=>h,p1⟩,λx o hx=>h.1 x o ?_,bh.2 ⟨λb hb x=>?_,p2⟩⟩
 ·obtain⟨a,ha,AH⟩:=eQ hx
  rcases aU.1 ha with rfl|ha
  ·obtain⟨b,hb,HW⟩:=eQ AH
   exact jE h2 (lJ _ hb) HW
  ·exact jE h2 (jp _ ha) AH
 ·rcases hp:b x with _|o
  ·exact .inr rfl
  ·refine .inl (pM.2 λa ha=>?_)
   rcases p3 a ha b hb x with h|h
   ·exact h
   ·rw[hp]at h;cases h
def p32(l:List Nat):List Nat:=(l++List.replicate 32 0).take 32
theorem M9(l:List Nat):(p32 l).length=32:=by simp[p32]
theorem akz{l:List Nat}(h:l.length=32):p32 l=l:=by rw[p32,List.take_left' h]
abbrev Rm:=gX×iS
abbrev Rm.x(r:Rm):gX:={r.1 with jI:=p32 r.1.jI}
def Xp(r:Rm):List Value:=LB.cz (r.x.L r.2)
theorem Qq(x:gX)(s:iS)(h:x.jI.length=32):(LB.cz (x.L s)).length=40/\∀u∈LB.cz (x.L s),u.oneCell'=true:=by
 refine⟨?_,LB.iN (wb h)⟩;rw[LB.fJ (wb h)];rfl
theorem yN:fp Xp 40:=⟨λr=>(Qq _ _ (M9 _)).1,λr=>(Qq _ _ (M9 _)).2,by decide⟩
abbrev Yc:Ty Rm:={enc:=Xp,s:=40,sl:=82,el:=38,by':=144,ts:=_,ti:=_,ok:=yN,h1:=rfl,h2:=rfl,h3:=rfl,h4:=rfl,h5:=rfl,h6:=rfl,h7:=by decide,h8:=by decide}
abbrev Rhm:=Rm×Int
def Cp(r:Rhm):List Value:=Xp r.1++[.int .i64 r.2]
theorem Sa:fp Cp 41:=⟨λr=>by rw[Cp,ax,yN.len];rfl,λr u hu=>by
 rcases aR.1 hu with h|h
 ·exact yN.one _ u h
 ·rw[aL.1 h];rfl,by decide⟩
abbrev E5:Ty Rhm:={enc:=Cp,s:=41,sl:=206,el:=280,by':=152,ts:=_,ti:=_,ok:=Sa,h1:=rfl,h2:=rfl,h3:=rfl,h4:=rfl,h5:=rfl,h6:=rfl,h7:=by decide,h8:=by decide}
structure Rv where
 id:Int
 (err:Int)
 (l:List Int)
abbrev Rv.L(x:Rv)(s:CN):LB:=[.one (.int .i64 x.id),.one (.int .i64 x.err),.one (.slice s.1 x.l.length s.2)]
abbrev Ran:=Rv×CN
def EU(r:Ran):List Value:=LB.cz (r.1.L r.2)
theorem It:fp EU 3:=⟨λ_=>rfl,λx u hu=>by simp[EU,LB.cz,eB.cells]at hu;rcases hu with rfl|rfl|rfl<;>rfl,by decide⟩
abbrev Yd:Ty Ran:={enc:=EU,s:=3,sl:=93,el:=96,by':=40,ts:=_,ti:=_,ok:=It,h1:=rfl,h2:=rfl,h3:=rfl,h4:=rfl,h5:=rfl,h6:=rfl,h7:=by decide,h8:=by decide}
abbrev Rha:=Ran×Int
def Is(r:Rha):List Value:=EU r.1++[.int .i64 r.2]
theorem Sb:fp Is 4:=⟨λ_=>rfl,λx u hu=>by simp[Is,EU,LB.cz,eB.cells]at hu;rcases hu with rfl|rfl|rfl|rfl<;>rfl,by decide⟩
abbrev Gd:Ty Rha:={enc:=Is,s:=4,sl:=209,el:=282,by':=48,ts:=_,ti:=_,ok:=Sb,h1:=rfl,h2:=rfl,h3:=rfl,h4:=rfl,h5:=rfl,h6:=rfl,h7:=by decide,h8:=by decide}
abbrev ik(vo va:Value)(fQ:Int):Obj:=.cells #[.bool true,vo,va,.int .i64 fQ] 211
structure kf where
 dE:List (gX×Int)
 (o7:List (Rv×Int))
structure aw6(p q:aD)(b:Nat)(B:kf)(vo va:Value)(fQ:Int)(po pa:aD)(RO:List Rhm)(RA:List Rha):Prop where
 sp:aq p [blk1 b (ik vo va fQ),po,pa]
 (o:Gw E5 po vo RO)
 (a:Gw Gd pa va RA)
 (eo:RO.map (λr=>(r.1.1,r.2))=B.dE)
 (ea:RA.map (λr=>(r.1.1,r.2))=B.o7)
 (ho:∀r∈RO,gy q r.1.1 r.1.2)
 (ha:∀r∈RA,Ia q (.slice r.1.2.1 r.1.1.l.length r.1.2.2) r.1.1.l)
def y5(p q:aD)(b:Nat)(B:kf):Prop:=∃vo va fQ po pa RO RA,aw6 p q b B vo va fQ po pa RO RA
theorem y5.grow{q q':aD}{B:kf}(h:y5 p q b B)(hs:cL q q'):y5 p q' b B:=by
 obtain⟨vo,va,fQ,po,pa,RO,RA,h⟩:=h;exact⟨vo,va,fQ,po,pa,RO,RA,h.sp,h.o,h.a,h.eo,h.ea,λr hr=>(h.ho r hr).sub hs,λr hr=>(h.ha r hr).sub hs⟩
theorem Y1:bi tP 60 [] m λr m'=>∃b p,r=[cx b]/\aq m' [p,m]/\y5 p iI b ⟨[],[]⟩:=by
 refine A4 c60 Tryz.func60 ?_;intro b hb;refine⟨b,blk1 b (ik (.slice none 0 0) (.slice none 0 0) 0),rfl,(aq.one m).new hb _,_,_,0,iI,iI,[],[],((aq.one _).cA.cA).ir [2,0,1],Gw.nil _,Gw.nil _,rfl,rfl,by simp,by simp⟩
section
variable {m:aD}{b:Nat}{vo va:Value}{fQ:Int}
theorem Dq{mark:Int}(hb:m b=some (ik vo va fQ)):eN tP 228 [cx b,i64 mark] m [i64 (if mark<0 then 1 else 0)]:=by
 refine ub Tryz.func228 ?_;refine xN ?_;refine xM hb ?_;refine xN ?_;apply bI<;>intro h
 ·have h':=ah h
  exact⟨by rw[aC h'],rfl⟩
 ·have h':=aj h
  exact⟨by rw[if_neg h'],rfl⟩
end
abbrev hmL(r:Rhm):LB:=[.one (.int .i64 r.1.1.kind),.one (.int .i64 r.1.1.fr),.one (.int .i64 r.1.1.qe),.one (.int .i64 r.1.1.qA),.one (.int .i64 r.1.1.part),.bG .u8 32 (nc (p32 r.1.1.jI)),.one (.slice r.1.2.p.1 r.1.1.pl.length r.1.2.p.2),.one (.slice r.1.2.d.1 r.1.1.dg.length r.1.2.d.2),.one (.slice r.1.2.c.1 r.1.1.ca.length r.1.2.c.2),.one (.int .i64 r.2)]
theorem U1(r:Rhm):LB.cz (hmL r)=Cp r:=by simp[Cp,Xp,LB.cz,eB.cells]
theorem alj(r:Rhm):LB.ok (hmL r):=⟨rfl,rfl,rfl,rfl,rfl,by rw[eB.ok,aH];exact M9 _,rfl,rfl,rfl,rfl,trivial⟩
abbrev haL(r:Rha):LB:=[.one (.int .i64 r.1.1.id),.one (.int .i64 r.1.1.err),.one (.slice r.1.2.1 r.1.1.l.length r.1.2.2),.one (.int .i64 r.2)]
def kh(cY:Int)(mark:Int):Bool:=decide (mark<=cY)
section
variable {m:aD}{v:Value}{cY:Int}
theorem Nd{R:List Rhm}(hv:Ga E5 m v R)(hl:R.length<=100000):
  bi tP 105 [.v v,i64 cY] m λr m'=>∃v1 v2 p1 p2,r=[.v v1,.v v2]/\aq m' [p1,p2,m]/\Gw Yc p1 v1 ((R.filter λr=>kh cY r.2).map (·.1))/\Gw E5 p2 v2 (R.filter λr=>!kh cY r.2):=by
 obtain⟨a,c,rfl⟩:=hv.shape;refine ub Tryz.func105 ?_;refine .mk (ι:=Nat×Value×Value) (λi=>R.length-i.1) (λ⟨i,y,w⟩ mm=>i<=R.length/\∃p1 p2,aq mm [p1,p2,m]/\Gw Yc p1 y (((R.take i).filter λr=>kh cY r.2).map (·.1))/\Gw E5 p2 w ((R.take i).filter λr=>!kh cY r.2)) (λ⟨i,y,w⟩=>[(1,.c (i64 cY)),(6,.c (.v y)),(7,.c (.v w)),(10,.c (.v (.slice a R.length c))),(11,.c (i64 R.length)),(12,.c (i64 i))]) (λ_=>[]) (0,.slice none 0 0,.slice none 0 0) ⟨by omega,iI,iI,(aq.one m).cA.cA,Gw.nil _,Gw.nil _⟩ ?_ ?_
 ·exact Cr
 rintro⟨i,y,w⟩ mm ⟨hi,p1,p2,hs,F2,lE⟩;apply bI<;>intro h
 ·have h':=ah h
  have bH:i<R.length:=by omega
  obtain⟨bl,ol,c',hh,hg⟩:=(hv.sub (hs.sub (a:=m))).real bH;injection hh with eK _ fN;subst eK;have wA:=hg i bH;have dI:R.take (i+1)=R.take i++[R[i]]:=au bH;have wz:((R.take i).filter λr=>kh cY r.2).length<=100000:=bq (bC _ _) (by rw[aK];omega);have Td:((R.take i).filter λr=>!kh cY r.2).length<=100000:=bq (bC _ _) (by rw[aK];omega);generalize R[i]=x at*;rw[show E5.enc x=Cp x from rfl,<-U1]at wA
  repeat refine xS ?_
  refine⟨hmL x,alj x,rfl,by simp only[bK,aA];exact wA,?_⟩;apply bI<;>intro h
  ·have rC:kh cY x.2=true:=h
   refine .mk _ (AL (t:=Yc) (e:=x.1) rfl) ?_;rintro _ _⟨b5,mo,rfl,rfl⟩;refine .mk _ (Az (t:=Yc) (i:=0) (x:=x.1) hs rfl mo F2 (by rw[aH];omega)) ?_;rintro _ m2⟨y',p',rfl,bZ,tZ⟩;refine⟨(i+1,y',w),⟨by omega,p',p2,bZ,?_,?_⟩,by simp only;omega,?_⟩
   ·rw[dI,aaB,bD]
    simpa [rC]using tZ
   ·rw[dI,aaB]
    simpa [rC]using lE
   ·exact Cr
  ·have rC:kh cY x.2=false:=h
   refine .mk _ (AL (t:=E5) (e:=x) (U1 x)) ?_;rintro _ _⟨b5,mo,rfl,rfl⟩;refine .mk _ (Az (t:=E5) (i:=1) (x:=x) hs rfl mo lE (by omega)) ?_;rintro _ m2⟨y',p',rfl,bZ,tZ⟩;refine⟨(i+1,y,y'),⟨by omega,p1,p',bZ,?_,?_⟩,by simp only;omega,?_⟩
   ·rw[dI,aaB]
    simpa [rC]using F2
   ·rw[dI,aaB]
    simpa [rC]using tZ
   ·exact Cr
 have h':=aj h;obtain rfl:i=R.length:=by omega
 rw[aJ]at F2 lE;exact⟨y,w,p1,p2,rfl,hs,F2,lE⟩
theorem Nf{R:List Rha}(hv:Ga Gd m v R)(hl:R.length<=100000):
  bi tP 123 [.v v,i64 cY] m λr m'=>∃v1 v2 p1 p2,r=[.v v1,.v v2]/\aq m' [p1,p2,m]/\Gw Yd p1 v1 ((R.filter λr=>kh cY r.2).map (·.1))/\Gw Gd p2 v2 (R.filter λr=>!kh cY r.2):=by
 obtain⟨a,c,rfl⟩:=hv.shape;refine ub Tryz.func123 ?_;refine .mk (ι:=Nat×Value×Value) (λi=>R.length-i.1) (λ⟨i,y,w⟩ mm=>i<=R.length/\∃p1 p2,aq mm [p1,p2,m]/\Gw Yd p1 y (((R.take i).filter λr=>kh cY r.2).map (·.1))/\Gw Gd p2 w ((R.take i).filter λr=>!kh cY r.2)) (λ⟨i,y,w⟩=>[(1,.c (i64 cY)),(6,.c (.v y)),(7,.c (.v w)),(10,.c (.v (.slice a R.length c))),(11,.c (i64 R.length)),(12,.c (i64 i))]) (λ_=>[]) (0,.slice none 0 0,.slice none 0 0) ⟨by omega,iI,iI,(aq.one m).cA.cA,Gw.nil _,Gw.nil _⟩ ?_ ?_
 ·exact Cr
 rintro⟨i,y,w⟩ mm ⟨hi,p1,p2,hs,F2,lE⟩;apply bI<;>intro h
 ·have h':=ah h
  have bH:i<R.length:=by omega
  obtain⟨bl,ol,c',hh,hg⟩:=(hv.sub (hs.sub (a:=m))).real bH;injection hh with eK _ fN;subst eK;have wA:=hg i bH;have dI:R.take (i+1)=R.take i++[R[i]]:=au bH;have wz:((R.take i).filter λr=>kh cY r.2).length<=100000:=bq (bC _ _) (by rw[aK];omega);have Td:((R.take i).filter λr=>!kh cY r.2).length<=100000:=bq (bC _ _) (by rw[aK];omega);generalize R[i]=x at*;rw[show Gd.enc x=LB.cz (haL x) from by simp[Is,EU,LB.cz,eB.cells]]at wA
  repeat refine xS ?_
  refine⟨haL x,⟨rfl,rfl,rfl,rfl,trivial⟩,rfl,by simp only[bK,aA];exact wA,?_⟩;apply bI<;>intro h
  ·have rC:kh cY x.2=true:=h
   refine .mk _ (AL (t:=Yd) (e:=x.1) rfl) ?_;rintro _ _⟨b5,mo,rfl,rfl⟩;refine .mk _ (Az (t:=Yd) (i:=0) (x:=x.1) hs rfl mo F2 (by rw[aH];omega)) ?_;rintro _ m2⟨y',p',rfl,bZ,tZ⟩;refine⟨(i+1,y',w),⟨by omega,p',p2,bZ,?_,?_⟩,by simp only;omega,?_⟩
   ·rw[dI,aaB,bD]
    simpa [rC]using tZ
   ·rw[dI,aaB]
    simpa [rC]using lE
   ·exact Cr
  ·have rC:kh cY x.2=false:=h
   refine .mk _ (AL (t:=Gd) (e:=x) (by simp[CV.cs,Is,EU,LB.cz,eB.cells])) ?_;rintro _ _⟨b5,mo,rfl,rfl⟩;refine .mk _ (Az (t:=Gd) (i:=1) (x:=x) hs rfl mo lE (by omega)) ?_;rintro _ m2⟨y',p',rfl,bZ,tZ⟩;refine⟨(i+1,y,y'),⟨by omega,p1,p',bZ,?_,?_⟩,by simp only;omega,?_⟩
   ·rw[dI,aaB]
    simpa [rC]using F2
   ·rw[dI,aaB]
    simpa [rC]using tZ
   ·exact Cr
 have h':=aj h;obtain rfl:i=R.length:=by omega
 rw[aJ]at F2 lE;exact⟨y,w,p1,p2,rfl,hs,F2,lE⟩
end
structure XO(x:gX):Prop where
 d:∀n∈x.jI,n<256
 (l:∀d∈x.dg,∀n∈d,n<256)
theorem WG{l:List Nat}(h:∀n∈l,n<256):jl (nc l):=λx hx=>by
 obtain⟨n,hn,rfl⟩:=aV.1 hx;have:=h n hn;omega
theorem acL{x:gX}(h:XO x):jl (we x):=by
 refine(ju _).append ((ju _).append ((ju _).append ((ju _).append ((ju _).append (jl.append ?_ ((ju _).append ((Pf _).append ((ju _).append (jl.append ?_ (HI _))))))))))
 ·split
  ·exact WG h.d
  ·exact jl.nil
 ·intro y hy
  obtain⟨d,hd,hy⟩:=iu.1 hy;exact WG (h.l d hd) y hy
theorem acK{x:gX}(hd:x.jI.length=32)(hD:D32 x.dg)(hr:arx x)(hl:(x.ca.map nJ).flatten.length<=9000000):(we x).length<=9100000:=by
 have n1:=eI x.kind;have n2:=eI x.fr;have n3:=eI x.qe;have n4:=eI x.qA;have n5:=eI x.part;have n6:=eI (x.pl.length:Int);have n7:=eI (x.dg.length:Int);have n8:=eI (x.ca.length:Int);have n9:=qd x.pl;have p1:=hr.pn;have p2:=hr.dn
 have h5:(if x.kind=1 then nc x.jI else[]).length<=32:=by
  split
  ·rw[aH];omega
  ·simp
 have h6:(xw x.dg).length=x.dg.length*32:=by
  have:=zG hD;rw[IB,zX]at this;rw[xw,zX];simpa using this
 simp only[we,Wm.t1,Wm.t2,Wm.t3,Wm.t4,Wm.t5,Wm.t6,Wm.t7,Wm.t8,Wm.t9,B3,ax];omega
def kf.send(B:kf)(x:gX)(mark:Int):kf:=if dR x then {B with dE:=B.dE++[(x,mark)]}else B
def kf.nX(B:kf)(x:Rv)(mark:Int):kf:={B with o7:=B.o7++[(x,mark)]}
def kf.Nb(B:kf)(cY:Int):List gX:=(B.dE.filter λr=>kh cY r.2).map (·.1)
def kf.left(B:kf)(cY:Int):kf:={B with dE:=B.dE.filter λr=>!kh cY r.2}
def kf.BI(B:kf)(cY:Int):List Rv:=(B.o7.filter λr=>kh cY r.2).map (·.1)
def kf.acX(B:kf)(cY:Int):kf:={B with o7:=B.o7.filter λr=>!kh cY r.2}
def kf.shift(B:kf):kf:=⟨B.dE.map λr=>(r.1,0),B.o7.map λr=>(r.1,0)⟩
theorem acg{α β:Type}(R:List (α×Int))(f:α->β)(p:Int->Bool):(R.filter λr=>p r.2).map (λr=>(f r.1,r.2))=(R.map λr=>(f r.1,r.2)).filter λr=>p r.2:=by
 rw[List.filter_map];rfl
section
variable {mm p q:aD}{b:Nat}{B:kf}
theorem Y0{cY:Int}(hs:aq mm [p,q])(h:y5 p q b B)(hl:B.dE.length<=1000):
  bi tP 50 [cx b,i64 cY] mm λr m'=>∃v p' q' R,r=[.v v]/\aq m' [p',q']/\cL q q'/\y5 p' q' b (B.left cY)/\Ga Yc q' v R/\R.map (·.1)=B.Nb cY/\∀r∈R,gy q' r.1 r.2:=by
 obtain⟨vo,va,fQ,po,pa,RO,RA,h⟩:=h;have bM:aq mm [blk1 b (ik vo va fQ),po,pa,q]:=hs.tQ h.sp;have hb:mm b=some (ik vo va fQ):=bM.get (a:=blk1 b (ik vo va fQ)) (by simp) (aG ..);have hol:RO.length=B.dE.length:=by rw[<-h.eo,aH]
 refine ub Tryz.func50 ?_;refine xN ?_;refine⟨_,aF hb rfl,h.o.ea.one,?_⟩;refine aP (Nd (cY:=cY) (h.o.el.sub (bM.sub)).ea (by omega)) ?_;rintro _ m2⟨v1,v2,p1,p2,rfl,bZ,F2,lE⟩;have dy:aq m2 [p1,p2,blk1 b (ik vo va fQ),po,pa,q]:=aq.jN (a:=[p1,p2]) bZ bM;have oM:m2 b=some (ik vo va fQ):=dy.get (a:=blk1 b (ik vo va fQ)) (by simp) (aG ..);refine⟨_,_,_,oM,⟨by simp,by simp⟩,?_⟩;have eP:=dy.gu (i:=2) rfl (aG ..) (ik v2 va fQ);rw[cJ]at eP;obtain⟨j,k1,k2,eD⟩:=aq.sK (eP.ir [0,5,2,1,4]);obtain⟨gC,iU⟩:=aq.k9 [blk1 b (ik v2 va fQ),p2,pa] (l:=[j]) (eD.ir [1,2,3,0]);refine⟨v1,_,j,_,rfl,gC,k2,⟨v2,va,fQ,p2,pa,_,RA,iU,lE,h.a,?_,h.ea,?_,λr hr=>(h.ha r hr).sub k2⟩,(F2.el.sub k1).ea,?_,?_⟩
 ·rw[kf.left,<-h.eo]
  exact acg RO (λr=>r.1) λz=>!kh cY z
 ·intro r hr
  exact(h.ho r (cH.1 hr).1).sub k2
 ·rw[kf.Nb,<-h.eo,<-acg RO (λr=>r.1) λz=>kh cY z,fS,fS]
  rfl
 ·intro r hr
  obtain⟨x,hx,rfl⟩:=aV.1 hr;exact(h.ho x (cH.1 hx).1).sub k2
theorem Uk{cY:Int}(hs:aq mm [p,q])(h:y5 p q b B)(hl:B.o7.length<=1000):
  bi tP 62 [cx b,i64 cY] mm λr m'=>∃v p' q' R,r=[.v v]/\aq m' [p',q']/\cL q q'/\y5 p' q' b (B.acX cY)/\Ga Yd q' v R/\R.map (·.1)=B.BI cY/\∀r∈R,Ia q' (.slice r.2.1 r.1.l.length r.2.2) r.1.l:=by
 obtain⟨vo,va,fQ,po,pa,RO,RA,h⟩:=h;have bM:aq mm [blk1 b (ik vo va fQ),po,pa,q]:=hs.tQ h.sp;have hb:mm b=some (ik vo va fQ):=bM.get (a:=blk1 b (ik vo va fQ)) (by simp) (aG ..);have hol:RA.length=B.o7.length:=by rw[<-h.ea,aH]
 refine ub Tryz.func62 ?_;refine xN ?_;refine⟨_,aF hb rfl,h.a.ea.one,?_⟩;refine aP (Nf (cY:=cY) (h.a.el.sub (bM.sub)).ea (by omega)) ?_;rintro _ m2⟨v1,v2,p1,p2,rfl,bZ,F2,lE⟩;have dy:aq m2 [p1,p2,blk1 b (ik vo va fQ),po,pa,q]:=aq.jN (a:=[p1,p2]) bZ bM;have oM:m2 b=some (ik vo va fQ):=dy.get (a:=blk1 b (ik vo va fQ)) (by simp) (aG ..);refine⟨_,_,_,oM,⟨by simp,by simp⟩,?_⟩;have eP:=dy.gu (i:=2) rfl (aG ..) (ik vo v2 fQ);rw[cJ]at eP;obtain⟨j,k1,k2,eD⟩:=aq.sK (eP.ir [0,5,2,3,1]);obtain⟨gC,iU⟩:=aq.k9 [blk1 b (ik vo v2 fQ),po,p2] (l:=[j]) (eD.ir [1,2,3,0]);refine⟨v1,_,j,_,rfl,gC,k2,⟨vo,v2,fQ,po,p2,RO,_,iU,h.o,lE,h.eo,?_,λr hr=>(h.ho r hr).sub k2,?_⟩,(F2.el.sub k1).ea,?_,?_⟩
 ·rw[kf.acX,<-h.ea]
  exact acg RA (λr=>r.1) λz=>!kh cY z
 ·intro r hr
  exact(h.ha r (cH.1 hr).1).sub k2
 ·rw[kf.BI,<-h.ea,<-acg RA (λr=>r.1) λz=>kh cY z,fS,fS]
  rfl
 ·intro r hr
  obtain⟨x,hx,rfl⟩:=aV.1 hr;exact(h.ha x (cH.1 hx).1).sub k2
theorem Um{x:Rv}{s:CN}{mark:Int}(hs:aq mm [p,q])(h:y5 p q b B)(hx:Ia q (.slice s.1 x.l.length s.2) x.l)(zu:x.l.length<=100000)(hl:B.o7.length<=1000)(hm:0<=mark):
  bi tP 142 [cx b,.a (x.L s),i64 mark] mm λr m'=>∃p' q',r=[i64 0]/\aq m' [p',q']/\cL q q'/\y5 p' q' b (B.nX x mark):=by
 obtain⟨vo,va,fQ,po,pa,RO,RA,h⟩:=h;have bM:aq mm [blk1 b (ik vo va fQ),po,pa,q]:=hs.tQ h.sp;have hb:mm b=some (ik vo va fQ):=bM.get (a:=blk1 b (ik vo va fQ)) (by simp) (aG ..);have hol:RA.length=B.o7.length:=by rw[<-h.ea,aH]
 refine A4 awJ Tryz.func142 ?_;refine bt (Dq (mark:=mark) hb) ?_;conv=>whnf
 rw[if_neg (by omega)];refine xN ?_;refine aP (ud (hx.sub (bM.sub)) (by omega)) ?_;rintro _ m1⟨v1,p1,rfl,bZ,F2⟩;obtain⟨a1,c1,rfl⟩:=F2.il.ia.shape;have dy:aq m1 [p1,blk1 b (ik vo va fQ),po,pa,q]:=aq.jN (a:=[p1]) bZ bM;have kW:m1 b=some (ik vo va fQ):=dy.get (a:=blk1 b (ik vo va fQ)) (by simp) (aG ..);refine⟨_,aF kW rfl,h.a.ea.one,?_⟩;refine .mk _ (AL (t:=Gd) (e:=((x,(a1,c1)),mark)) (by simp[CV.cs,Is,EU,LB.cz,eB.cells])) ?_;rintro _ _⟨b5,mo,rfl,rfl⟩
 first|refine⟨yt kW (aD.bT _ mo),?_⟩|skip
 refine .mk _ (Az (t:=Gd) (i:=3) (x:=((x,(a1,c1)),mark)) dy rfl mo h.a (by omega)) ?_;rintro _ m4⟨y',p',rfl,eP,tZ⟩;have OV:m4 b=some (ik vo va fQ):=eP.get (a:=blk1 b (ik vo va fQ)) (by simp) (aG ..);refine⟨_,_,_,OV,⟨by simp,by simp⟩,?_⟩;have eD:=eP.gu (i:=1) rfl (aG ..) (ik vo y' fQ);rw[cJ]at eD;obtain⟨j,k1,k2,gC⟩:=aq.sK (eD.ir [0,4,1,2,3]);obtain⟨iU,k8⟩:=aq.k9 [blk1 b (ik vo y' fQ),po,p'] (l:=[j]) (gC.ir [1,2,3,0]);refine⟨_,j,rfl,iU,k2,vo,y',fQ,po,p',RO,_,k8,h.o,tZ,h.eo,?_,λr hr=>(h.ho r hr).sub k2,?_⟩
 ·rw[bD,h.ea];rfl
 ·intro r hr
  rcases aR.1 hr with hr|hr
  ·exact(h.ha r hr).sub k2
  ·rw[aL.1 hr]
   exact F2.il.ia.sub k1
theorem Un{x:gX}{s:iS}{mark:Int}(hS:cK q)(hs:aq mm [p,q])(h:y5 p q b B)(hx:gy q x s)(ho:qx x)(hd:XO x)(hkd:(x.ca.map nJ).flatten.length<=9000000)(hl:B.dE.length<500)(hm:0<=mark):
  bi tP 145 [cx b,mT x s,i64 mark] mm λr m'=>∃p' q',r=[i64 (if dR x then 0 else 3)]/\aq m' [p',q']/\cL q q'/\y5 p' q' b (B.send x mark):=by
 have hbq:=h;obtain⟨vo,va,fQ,po,pa,RO,RA,h⟩:=h;have bM:aq mm [blk1 b (ik vo va fQ),po,pa,q]:=hs.tQ h.sp;have hb:mm b=some (ik vo va fQ):=bM.get (a:=blk1 b (ik vo va fQ)) (by simp) (aG ..);have hol:RO.length=B.dE.length:=by rw[<-h.eo,aH]
 have hqm:cL q mm:=bM.sub (by simp);unfold kf.send;refine A4 aAn Tryz.func145 ?_;refine bt (Dq (mark:=0) hb) ?_;conv=>whnf
 rw[if_neg (by omega)];refine xN ?_;refine aP (Qp (hS.sub hqm) (hx.sub hqm) ho hkd) ?_;rintro _ m1⟨v1,p1,rfl,bZ,F2⟩;have dy:aq m1 [p1,blk1 b (ik vo va fQ),po,pa,q]:=aq.jN (a:=[p1]) bZ bM;by_cases hr:dR x=true;rotate_left
 ·have hr:dR x=false:=by simpa using hr
  simp only[hr]at F2⊢;refine xY ?_;exact⟨p,q,rfl,(aq.jN (a:=[p1]) bZ hs).ir [1,2],cL.refl _,hbq⟩
 simp only[hr,oN]at F2⊢;have rg:=nD hr;have OU:=acL hd;have hlen:=acK hx.Th hx.dg.ok rg hkd;have yC:=T7 hr hx.Th hx.dg.ok λc hc=>(ho.k c hc).u;refine xN ?_;have kW:m1 b=some (ik vo va fQ):=dy.get (a:=blk1 b (ik vo va fQ)) (by simp) (aG ..);refine bt (Dq (mark:=mark) kW) ?_;conv=>whnf
 rw[if_neg (by omega)];refine xN ?_;refine aP (UB (hS.sub (dy.sub)) (F2.lb.sub (dy.sub)) OU (by omega)) ?_;rintro _ m2⟨s',p2,rfl,eP,nT,ez,_⟩;conv=>whnf
 rw[yC]at nT ez⊢;have eD:aq m2 [p2,p1,blk1 b (ik vo va fQ),po,pa,q]:=aq.jN (a:=[p2]) eP dy;have oM:m2 b=some (ik vo va fQ):=eD.get (a:=blk1 b (ik vo va fQ)) (by simp) (aG ..);refine⟨_,aF oM rfl,h.o.ea.one,?_⟩;have hmx:LB.cz (hmL ((x,s'),mark))=Cp ((x,s'),mark):=U1 _;have h32:p32 x.jI=x.jI:=akz hx.Th;refine .mk _ (AL (t:=E5) (e:=((x,s'),mark)) (by rw[show E5.enc ((x,s'),mark)=Cp ((x,s'),mark) from rfl,<-hmx];simp only[hmL,h32];rfl)) ?_;rintro _ _⟨b5,mo,rfl,rfl⟩;refine⟨yt oM (aD.bT _ mo),?_⟩;refine .mk _ (Az (t:=E5) (i:=3) (x:=((x,s'),mark)) eD rfl mo h.o (by omega)) ?_;rintro _ m6⟨y',p',rfl,gC,tZ⟩;have Xl:m6 b=some (ik vo va fQ):=gC.get (a:=blk1 b (ik vo va fQ)) (by simp) (aG ..);refine⟨_,_,_,Xl,⟨by simp,by simp⟩,?_⟩;obtain⟨ya,yc,rfl⟩:=tZ.el.shape;have iU:=gC.gu (i:=2) rfl (aG ..) (ik (.slice ya (RO++[((x,s'),mark)]).length yc) va fQ);rw[cJ]at iU;have Te:=iU.get (a:=blk1 b (ik (.slice ya (RO++[((x,s'),mark)]).length yc) va fQ)) (by simp) (aG ..);refine xM Te ?_;refine⟨λhq=>?_,λ_=>?_⟩
 ·have:=ah hq
  rw[ax]at this;simp at this;omega
 obtain⟨j,k1,k2,k8⟩:=aq.sK (iU.ir [0,5,2,3,4]);obtain⟨zv,nr⟩:=aq.k9 [blk1 b (ik (.slice ya (RO++[((x,s'),mark)]).length yc) va fQ),p',pa] (l:=[j]) (k8.ir [1,2,3,0]);refine⟨_,j,rfl,zv,k2,_,va,fQ,p',pa,_,RA,nr,tZ,h.a,?_,h.ea,?_,λr hr=>(h.ha r hr).sub k2⟩
 ·rw[bD,h.eo];rfl
 ·intro r hr
  rcases aR.1 hr with hr|hr
  ·exact(h.ho r hr).sub k2
  ·rw[aL.1 hr]
   exact nT.sub k1
end
end Go.E.Y
