import Derived.Test.YtikipjbkjcefbaaGreatDoorNodePendingZ5
import Derived.Test.YtikipjbkjcefbaaGreatDoorCards
import Derived.Lay
import Derived.LaidLaws
import Derived.MakeChecks
set_option maxHeartbeats 40000000
set_option maxRecDepth 100000
namespace Go.E.Y
open Go.Proofs
variable{m:aD}{n:Nat}
theorem Od{u:List Int}{a:Option Addr}{c:Nat}:eN tP 204 [iY u a n c] m [bR (decide (60<n))]:=by
 refine bW (c:=du) Tryz.func204 rfl (ce ?_);have e:decide ((60:Int)<(n:Int))=decide (60<n):=fF.2 (by omega);exact⟨by rw[<-e],rfl⟩
def smK(L:List Kd):Prop:=L.length<=30/\∀x∈L,x.1.size<=100/\x.2.2.length<=60
variable{v:Value}{L:List Kd}
theorem Oc(hv:lu m v L)(hl:L.length<=9223372036854775807):bi tP 122 [.v v] m λr m'=>∃g,r=[bR g]/\m'=m/\(g=false->smK L):=by
 obtain⟨R,hR,hK⟩:=hv;have hlen:=hK.len;obtain⟨av,cv,rfl⟩:=hR.shape;refine bW (c:=du) Tryz.func122 rfl (ce ?_);refine .mk (ι:=Nat) (λi=>R.length-i) (λi mm=>i<=R.length/\mm=m/\(0<i->L.length<=30)/\∀x∈L.take i,x.1.size<=100/\x.2.2.length<=60) (λi=>[(0,.c (.v (.slice av R.length cv))),(3,.c (i64 i))]) (λ_=>[]) 0 ⟨by omega,rfl,by omega,by simp⟩ ?_ ?_
 ·exact Cr
 rintro i mm⟨hi,he,h30,cM⟩;subst mm;apply bI<;>intro h
 ·have h':=ah h
  have bH:i<R.length:=by omega
  obtain⟨b2,ol,c',hh,js⟩:=hR.real bH;injection hh with eK _ fN;subst eK;have js:=js i bH;have hx:=hK.je i bH (by omega);have dI:L.take (i+1)=L.take i++[L[i]'(by omega)]:=au (by omega);generalize R[i]=r at*;generalize L[i]'(by omega)=x at*;have zu:=hx.len;obtain⟨xk,xu,xE⟩:=x;obtain⟨rk,ru,ra,rn,rc⟩:=r;obtain⟨g1,g2,g3,g4⟩:=hx;simp only at g1 g2 g3 g4 zu;subst g1 g2 zu;have JR:=fZ (j:=0) js rfl;have U7:=dQ.tail (k:=1) js
  have ee:List.drop 1 (fj (rk,ru,(ra,xE.length,rc)))=LB.cz [.bG .u64 8 ru,.one (.slice ra xE.length rc)]:=by
   simp[fj,yn g3,LB.cz,eB.cells]
  rw[ee]at U7;apply bI<;>intro h
  ·exact⟨true,rfl,rfl,λh=>by cases h⟩
  have aBU:R.length<=30:=by have:=aj h;omega
  repeat refine xS ?_
  refine xL (JR) ?_;apply bI<;>intro h
  ·exact⟨true,rfl,rfl,λh=>by cases h⟩
  have apW:rk.size<=100:=by
   have h':¬(100:Int)<(rk.size:Int):=aj h;omega
  repeat refine xS ?_
  refine⟨[.bG .u64 8 ru,.one (.slice ra xE.length rc)],⟨g3,rfl,trivial⟩,rfl,by simp only[bK,aA];exact U7,?_⟩;refine bt (Od) ?_;apply bI<;>intro h
  ·exact⟨true,rfl,rfl,λh=>by cases h⟩
  have h60:xE.length<=60:=by have:=aj h;omega
  refine⟨i+1,⟨by omega,rfl,λ_=>by omega,λx hx=>?_⟩,by omega,?_⟩
  ·rw[dI]at hx
   rcases aR.1 hx with hx|hx
   ·exact cM x hx
   ·rw[aL.1 hx];exact⟨apW,h60⟩
  ·exact Cr
 ·have h':=aj h
  obtain rfl:i=R.length:=by omega
  refine⟨false,rfl,rfl,λ_=>?_⟩;rw[hlen,aJ]at cM;refine⟨?_,cM⟩;by_cases h0:0<R.length
  ·exact h30 h0
  ·omega
structure SmM(y:gX):Prop where
 (p:y.pl.length<=60)
 d:y.dg.length<=60
 (c:smK y.ca)
variable{y:gX}{s:iS}
theorem Ob(hy:gy m y s)(hl:y.ca.length<=9223372036854775807):bi tP 61 [mT y s] m λr m'=>∃g,r=[bR g]/\m'=m/\(g=false->SmM y):=by
 refine bW (c:=du) Tryz.func61 rfl (ce ?_);apply bI<;>intro h
 ·exact⟨true,rfl,rfl,λh=>by cases h⟩
 have h1:y.pl.length<=60:=by have:=aj h;omega
 apply bI<;>intro h
 ·exact⟨true,rfl,rfl,λh=>by cases h⟩
 have h2:y.dg.length<=60:=by have:=aj h;omega
 refine aP (Oc hy.ca hl) ?_;rintro _ m1⟨g,rfl,rfl,hg⟩;exact⟨g,rfl,rfl,λh=>⟨h1,h2,hg h⟩⟩
variable{x:vF}
theorem NZ(hy:gy m x.AB s)(hl:x.AB.ca.length<=9223372036854775807):bi tP 26 [JD x s] m λr m'=>∃g,r=[bR g]/\m'=m/\(g=false->x.key.size<=100/\SmM x.AB):=by
 refine bW (c:=du) Tryz.func26 rfl (ce ?_);apply bI<;>intro h
 ·exact⟨true,rfl,rfl,λh=>by cases h⟩
 have h1:x.key.size<=100:=by
  have h':¬(100:Int)<(x.key.size:Int):=aj h;omega
 refine aP (Ob hy hl) ?_;rintro _ m1⟨g,rfl,rfl,hg⟩;exact⟨g,rfl,rfl,λh=>⟨h1,hg h⟩⟩
def SmO(O:List O31):Prop:=O.length<=40/\∀o∈O,o.x.key.size<=100/\SmM o.x.AB
variable{O:List O31}
theorem NY(hv:V9 m v O)(hl:O.length<=9223372036854775807):bi tP 7 [.v v] m λr m'=>∃g,r=[bR g]/\m'=m/\(g=false->SmO O):=by
 obtain⟨av,cv,rfl⟩:=hv.sh;refine bW (c:=du) Tryz.func7 rfl (ce ?_);refine .mk (ι:=Nat) (λi=>O.length-i) (λi mm=>i<=O.length/\mm=m/\(0<i->O.length<=40)/\∀o∈O.take i,o.x.key.size<=100/\SmM o.x.AB) (λi=>[(0,.c (.v (.slice av O.length cv))),(3,.c (i64 i))]) (λ_=>[]) 0 ⟨by omega,rfl,by omega,by simp⟩ ?_ ?_
 ·exact Cr
 rintro i mm⟨hi,he,h40,cM⟩;subst mm;apply bI<;>intro h
 ·have h':=ah h
  have bH:i<O.length:=by omega
  obtain⟨b2,ol,c',hh,js⟩:=hv.el i bH;injection hh with eK _ fN;subst eK;have js:=js i bH;have ho:=hv.ok O[i] (aO bH);have dI:O.take (i+1)=O.take i++[O[i]]:=au bH;generalize O[i]=o at*
  have U7:dQ m b2 (ol+i*49+1) (LB.cz (o.x.L o.s)):=by
   obtain⟨arr,t,fr,g1,g2⟩:=js;refine⟨arr,t,fr,g1,λjj u hu=>?_⟩
   have:=g2 (1+jj) u (by
    show(Value.int .i64 o.kind::LB.cz (o.x.L o.s++[.one o.dO]))[1+jj]?=some u
    rw[uG 1 jj,Fv,LB.jW,aT (aQ.1 hu).1]
    exact hu)
   rw[show ol+i*49+1+jj=ol+i*49+(1+jj) by omega];exact this
  apply bI<;>intro h
  ·exact⟨true,rfl,rfl,λh=>by cases h⟩
  have avF:O.length<=40:=by have:=aj h;omega
  repeat refine xS ?_
  refine⟨o.x.L o.s,WW ho.a.Th,rfl,by simp only[bK,aA];exact U7,?_⟩;refine aP (NZ ho.a ho.r.m.l) ?_;rintro _ m1⟨g,rfl,rfl,Xe⟩
  cases g with
  |true=>
   refine xY ?_;exact⟨true,rfl,rfl,λh=>by cases h⟩
  |false=>
   refine xN ?_;refine⟨i+1,⟨by omega,rfl,λ_=>avF,λz hz=>?_⟩,by omega,?_⟩
   ·rw[dI]at hz
    rcases aR.1 hz with hz|hz
    ·exact cM z hz
    ·rw[aL.1 hz];exact Xe rfl
   ·exact Cr
 ·have h':=aj h
  obtain rfl:i=O.length:=by omega
  refine⟨false,rfl,rfl,λ_=>?_⟩;rw[aJ]at cM;refine⟨?_,cM⟩;by_cases h0:0<O.length
  ·exact h40 h0
  ·omega
theorem al1{bf bm:Nat}{q:Int}(h:aq m [blk1 bf (jd q bm 0 0),blk1 bm (mU [] 0)]):FA m bf q 0 0 []:=⟨bm,0,[],⟨h,by simp,by simp,by simp⟩,rfl⟩
theorem Qk{q:Int}(h:0<=q):bi tP 27 [i64 q] m λr m'=>∃bf p,r=[fy bf,i64 0]/\aq m' [p,m]/\FA p bf q 0 0 []:=by
 refine bW (c:=c27) Tryz.func27 rfl (ce ?_);refine⟨λh'=>absurd (ah h') (by omega),λ_=>?_⟩;refine .mk _ (wh (enc:=Value.string)) ?_;rintro _ m1⟨bm,EO,rfl,rfl⟩;intro bf hbf;have hs:=((aq.one m).new EO (mU [] 0)).new hbf (jd q bm 0 0);have hs:=hs.fm (l':=[m,blk1 bf (jd q bm 0 0),blk1 bm (mU [] 0)]) (by exact(List.Perm.cons _ (List.Perm.swap _ _ _)).trans (List.Perm.swap _ _ _));exact⟨bf,_,rfl,(aq.fb hs).1,al1 (aq.fb hs).2⟩
variable {mm p q:aD}{X:Jg}{qt:Int}{N:fw}{j k:Nat}
def vA(r:Int):Rc:=⟨3,4,r⟩
def Rl:Bk:=⟨1,4,3,0⟩
theorem yQ:eN tP 17 [] m [.a (Sq (vA 2) Rl)]:=by
 refine bW (c:=du) Tryz.func17 rfl (ce ?_);exact rR
def N0(r n:Int)(ns:Nat):fw:=agR (vA r) Rl n ⟨0,[],[],0,0⟩ [] 0 ns
theorem X4:dN [] 0=0:=by have:=uN [] 0;simpa using this
theorem ame(q:Int):CI q [] 0 [] [] 0 where
 gp:=by simp
 gr:=by simp
 gb:=by omega
 sn:=by omega
 s0:=λ_=>rfl
 lg:=.inl ⟨rfl,rfl,rfl⟩
 nl:=λ_ _ _=>rfl
 nn:=λ_ _ _=>rfl
 qt:=λh=>by simp[iP];omega
variable{n r:Int}
theorem Ql{pf:aD}{bf:Nat}(hg:jZ m)(hs:aq mm [pf,m])(hf:FA pf bf qt 0 0 [])(hq:0<=qt/\qt<=9223372036854775807)(hr:1<=r/\r<=3)(hn:1<=n/\n<=3):
  bi tP 25 [.a (Sq (vA r) Rl),i64 n,fy bf] mm λrr m'=>∃X kc p' q',rr=[cx X.a,i64 0]/\X.bf=bf/\aq m' [p',q']/\cL m q'/\y0 p' q' X qt (N0 r n kc)/\pO qt 0 2 (N0 r n kc):=by
 have ez:(vA r).ok=true:=Rc.lj.2 ⟨by simp[vA],by simp[vA],by simp[vA];omega⟩;refine(Uw (kk:=1000) (n:=n) (w:=Rl) hg hs hf ⟨by simp,by simp,by omega,by omega,by omega⟩ (λa ha=>by simp at ha) (ame qt) (by omega) hq (by omega) (by simp) ez (by decide) ⟨hn.1,by simp[vA];omega⟩).mono λrr m' ⟨X,kc,A',p',q',h1,h2,h3,h4,h5,h6,h7,h8,h9⟩=>?_;have hA:=h9 rfl;subst hA;have ho:kb 0 [] [] 0=⟨0,[],[],0,0⟩:=by unfold kb;rw[X4];rfl
 rw[ho]at h5 h6;exact⟨X,kc,p',q',h1,h2,h3,h4,h5,h6,hq,by show 0+0<=0;omega,by show ∀a∈([]:List Af),_;simp,by show 0+(if ([]:List Kd)=[]then 1 else 0)<=2;simp,by show 0<=_;omega,by show kc<=2;omega,(λa ha=>by cases ha),by show 0+1<=2;omega⟩
theorem OF(hg:jZ m)(hq:0<=qt/\qt<=9223372036854775807)(hn:1<=n/\n<=3):
  bi tP 9 [i64 n,i64 qt] m λrr m'=>∃X kc p' q',rr=[cx X.a,fy X.bf]/\aq m' [p',q']/\cL m q'/\y0 p' q' X qt (N0 2 n kc)/\pO qt 0 2 (N0 2 n kc):=by
 refine bW (c:=du) Tryz.func9 rfl (ce ?_);refine aP (Qk hq.1) ?_;rintro _ m1⟨bf,pf,rfl,bM,hf⟩;refine bt (yQ) ?_;refine aP (Ql (n:=n) (r:=2) hg bM hf hq (by omega) hn) ?_;rintro _ m2⟨X,kc,p',q',rfl,hb,bZ,rO,kV,hI2⟩;obtain⟨lv,pr,ps,pf',pb,pl,R,hO⟩:=kV.op bZ;refine xN ?_;refine xN ?_;refine xN ?_;refine bt (yg hO.o) ?_;refine xN ?_;subst hb;exact⟨X,kc,p',q',rfl,bZ,rO,kV,hI2⟩
variable {qt:Int}{N N':fw}{j k:Nat}
theorem pO.eq(h:pO qt j k N)(hs:N'.s=N.s)(hA:N'.A=N.A)(hb:N'.nb=N.nb)(hn:N'.ns=N.ns):pO qt j k N':=by
 obtain⟨h1,h2,h3,h4,h5,h6,h7,h8,h9⟩:=h;rw[<-hs,<-hA]at h1;rw[<-hs]at h3 h9;rw[<-hA]at h4 h8;rw[<-hA,<-hs]at h5;rw[<-hb]at h6;rw[<-hn]at h7;exact⟨h1,h2,h3,h4,h5,h6,h7,h8,h9⟩
theorem pO.box{n:Nat}(h:pO qt j k N)(hb:y7 N N' n):pO qt j k N':=by
 have e:=hb.e;exact h.eq (by rw[e]) (by rw[e]) (by rw[e]) (by rw[e])
structure OP(N N':fw):Prop where
 c:N'.c=N.c
 w:N'.w=N.w
 n:N'.n=N.n
theorem OP.refl(N:fw):OP N N:=⟨rfl,rfl,rfl⟩
variable{M:fw}
theorem OP.trans(h:OP N N')(h':OP N' M):OP N M:=⟨h'.c.trans h.c,h'.w.trans h.w,h'.n.trans h.n⟩
theorem y7.fix{n:Nat}(h:y7 N N' n):OP N N':=by rw[h.e];exact⟨rfl,rfl,rfl⟩
theorem GU(qt:Int)(L:List Kd)(N:fw):OP N (N.fT qt L).1:=by rw[vW];exact⟨rfl,rfl,rfl⟩
structure ON(x:vF):Prop where
 r:amq x
 (s:SmM x.AB)
theorem aaz.arg{x:Kd}(h:aaz x)(hl:x.2.2.length<=60):jg x:=⟨h.u,h.e,by omega⟩
theorem ON.ca(h:ON x):∀c∈x.AB.ca,jg c:=λc hc=>(h.r.m.k c hc).arg (h.s.c.2 c hc).2
theorem ON.at(h:ON x)(hk:x.key.size<=100)(ha:gy m x.AB s):vC m x s:=
 ⟨ha,⟨h.ca,λc hc=>by have:=(h.s.c.2 c hc).1;omega,λc hc=>by have:=(h.s.c.2 c hc).2;omega,by have:=h.s.c.1;omega,by have:=h.s.p;omega,by have:=h.s.d;omega⟩,by omega⟩
structure Nx(qt:Int)(j k:Nat)(N N':fw):Prop where
 i:pO qt j k N'
 (f:OP N N')
theorem acv(h:pO qt j k N)(x:kl):Nx qt j k N (N.CR x):=⟨h.box (rp N x),(rp N x).fix⟩
theorem WC(h:pO qt j k M)(hf:OP N M)(x:kl):Nx qt j k N (M.CR x):=⟨(acv h x).i,hf.trans (acv h x).f⟩
theorem OP.same(h:OP N N')(hc:M.c=N'.c)(hw:M.w=N'.w)(hn:M.n=N'.n):OP N M:=⟨hc.trans h.c,hw.trans h.w,hn.trans h.n⟩
theorem UC{A:List Af}{s:jf}{x:Kd}(h:yp qt A s x=true):rq qt A s (x.1,(jw s x).1)=0/\(jw s x).2=0:=by
 unfold yp at h;simp only[aB,bA]at h;exact⟨h.2,h.1.1.2⟩
theorem acx(h:pO qt j k N){x:Kd}(hx:jg x):Nx qt (j+1) k N (A9 qt N x).1:=by
 unfold A9;dsimp only;split
 ·rename_i hb
  obtain⟨h1,h2⟩:=UC hb;have ha:=xH (k:=x.1) (qo (λy hy=>(h.gl y hy).arg) x.1) hx h2;exact⟨h.put ha.u h1,rfl,rfl,rfl⟩
 ·exact⟨h.up (by omega) (by omega),.refl _⟩
theorem Y5(h:pO qt j k N)(Vf:∀x∈y.ca,jg x)(hr:dR y=true)(hl:N.s.L.length+y.ca.length<=1333):Nx qt (j+y.ca.length) k N (qc qt N y).1:=by
 have hA:∀x∈N.s.L,jg x:=λx hx=>(h.gl x hx).arg;unfold qc;by_cases h0:(tC N.s.L y).2.2=0
 ·have WZ:=(XJ hA hr Vf hl h0).2
  have h1:=h.fT (L:=(tC N.s.L y).2.1) λx hx=>(WZ.a x hx).u;have h2:=h1.up (j':=j+y.ca.length) (k':=k) (by have:=WZ.l;omega) (by omega);rw[if_neg (by simp[h0])];split
  ·exact⟨h2,GU _ _ _⟩
  ·exact⟨h2.eq rfl rfl rfl rfl,(GU _ _ _).trans ⟨rfl,rfl,rfl⟩⟩
 ·rw[aC h0]
  exact⟨h.up (by omega) (by omega),.refl _⟩
theorem agJ(h:pO qt j k N)(Vf:∀x∈y.ca,jg x):Nx qt (j+y.ca.length) k N (vf qt N y).1:=by
 have hA:∀x∈N.s.L,jg x:=λx hx=>(h.gl x hx).arg;have WZ:=C8 hA Vf;have h1:=h.fT (L:=(gn N.s.L y.ca).2) λx hx=>(WZ.a x hx).u;have h2:=h1.up (j':=j+y.ca.length) (k':=k) (by have:=WZ.l;omega) (by omega);have hf:=GU qt (gn N.s.L y.ca).2 N;have hz:Nx qt (j+y.ca.length) k N N:=⟨h.up (by omega) (by omega),.refl _⟩;unfold vf;split
 ·exact hz
 ·unfold DS
  split
  ·exact hz
  split
  ·exact hz
  split
  ·exact⟨h2,hf⟩
  split
  ·exact⟨h2.eq rfl rfl rfl rfl,hf.trans ⟨rfl,rfl,rfl⟩⟩
  ·show Nx qt _ k N (fw.CR _ _)
   refine WC ?_ ?_ _
   ·exact pO.eq h2 rfl rfl rfl rfl
   ·exact hf.same rfl rfl rfl
theorem acy(h:pO qt j k N)(Vf:∀x∈y.ca,jg x)(hr:dR y=true)(hn:y.ca.length<=30)(hl:j<=1300):Nx qt (j+31) k N (mK qt N y).1:=by
 have hz:Nx qt (j+31) k N N:=⟨h.up (by omega) (by omega),.refl _⟩;unfold mK;split
 ·exact hz
 split
 ·exact hz
 split
 ·have:=Y5 h Vf hr (by have:=h.ll;omega)
  exact⟨this.i.up (by omega) (by omega),this.f⟩
 split
 ·split
  ·rename_i x _ e
   have:=acx h (Vf x (by rw[e];simp));exact⟨this.i.up (by omega) (by omega),this.f⟩
  ·exact hz
 ·have:=agJ h Vf
  exact⟨this.i.up (by omega) (by omega),this.f⟩
theorem Nh(h:pO qt j k N):Nx qt j k N (lO N).1:=by
 unfold lO;split
 ·exact⟨h,.refl _⟩
 ·have hb:=vM (N.bQ+1) N.l (N.at (N.bQ+1),[])
  have h1:pO qt j k (N.at (N.bQ+1)):=h.eq rfl rfl rfl rfl;have hf:OP N (N.l.foldl (Au (N.bQ+1)) (N.at (N.bQ+1),[])).1:=OP.trans (N':=N.at (N.bQ+1)) ⟨rfl,rfl,rfl⟩ hb.fix;exact⟨(h1.box hb).eq rfl rfl rfl rfl,hf.same rfl rfl rfl⟩
theorem agK(h:pO qt j k N)(d:Int):Nx qt j k N (oC N d).1:=by
 unfold oC;split
 ·exact⟨h,.refl _⟩
 split
 ·exact⟨h,.refl _⟩
 split
 ·exact⟨h,.refl _⟩
 ·show Nx qt _ k N (fw.CR _ _)
  refine WC ?_ ?_ _
  ·exact pO.eq h rfl rfl rfl rfl
  ·exact(OP.refl N).same rfl rfl rfl
theorem acw(h:pO qt j k N)(hT:NdT N)(hm:E8 x.op.1 x.op.2.1 x.op.2.2=true):Nx qt (j+1) k N (lW qt N x).1:=by
 have hz:Nx qt (j+1) k N N:=⟨h.up (by omega) (by omega),.refl _⟩;have hg:=qo (λy hy=>(h.gl y hy).arg) x.key;have ha:=Xt (k:=x.key) (u:=(gh N.s.L x.key).1) (E:=(gh N.s.L x.key).2) hg.u hg.e hg.n hT.n8 (ajf hm);unfold lW;split
 ·exact hz
 split
 ·exact hz
 split
 ·exact hz
 ·rename_i hp
  have hp:rq qt N.A N.s (x.key,(Jc (gh N.s.L x.key) N.n x.op).1)=0:=by simpa using hp
  have h1:=h.put ha.u hp;have hb:=rL (x.key,(Jc (gh N.s.L x.key) N.n x.op).1) (ko N.c x.key N.n) ((N.put (x.key,(Jc (gh N.s.L x.key) N.n x.op).1)).nX ⟨x.id,0,[]⟩);exact⟨(h1.eq (N':=(N.put (x.key,(Jc (gh N.s.L x.key) N.n x.op).1)).nX ⟨x.id,0,[]⟩) rfl rfl rfl rfl).box hb,OP.trans (N':=(N.put (x.key,(Jc (gh N.s.L x.key) N.n x.op).1)).nX ⟨x.id,0,[]⟩) ⟨rfl,rfl,rfl⟩ hb.fix⟩
theorem agI(h:pO qt j k N)(x:vF):Nx qt j k N (qj N x).1:=by
 unfold qj;split
 ·exact⟨h,.refl _⟩
 ·exact⟨h.eq rfl rfl rfl rfl,⟨rfl,rfl,rfl⟩⟩
theorem agH(h:pO qt j k N){kc:Nat}(hn:kc<=N.ns+1):Nx qt j (k+2) N {N with s:=N.s.Gj,A:=jU N.A (gK N.s.g),ns:=kc}:=by
 have hnb:=h.nb;have NQ:=h.ns;refine⟨⟨h.fi.akd,h.qr,h.rl,(uO N.A _).l _ h.al,?_,?_,?_,Hg _ h.nm,?_⟩,rfl,rfl,rfl⟩
 ·show(jU N.A _).length+(if N.s.R=[]then 1 else 0)<=_
  have:=h.an;rw[jU,aH];omega
 ·show N.nb<=_
  have:10000000*(j+(k+2))=10000000*(j+k)+20000000:=by omega
  omega
 ·show kc<=_;omega
 ·show N.s.g+1<=_
  have:=h.g;omega
theorem acz(h:pO qt j k N):Nx qt j k N {N with s:=if sU N.s=0 then N.s.at 1 else N.s}:=by
 by_cases h0:sU N.s=0
 ·rw[aC h0]
  have h1:¬(0<N.s.st\/N.s.cY≠N.s.R.length):=λh2=>by rw[sU,aC h2]at h0;cases h0
  simp only[not_or,lM]at h1;exact⟨⟨h.fi.begin (by omega) h1.2,h.qr,h.rl,h.al,h.an,h.nb,h.ns,h.nm,h.g⟩,rfl,rfl,rfl⟩
 ·rw[if_neg h0]
  exact⟨h.eq rfl rfl rfl rfl,rfl,rfl,rfl⟩
variable{y:XL}
theorem aoU(h:pO qt j k N)(hT:NdT N)(hj:j<=1300)(hx:ON x)(hd:y4 qt N x N' y):Nx qt (j+31) (k+2) N N':=by
 have up:∀{M:fw}{j' k':Nat},Nx qt j' k' N M->j'<=j+31->k'<=k+2->Nx qt (j+31) (k+2) N M:=λhm h1 h2=>⟨hm.i.up h1 h2,hm.f⟩;have hz:Nx qt j k N N:=⟨h,.refl _⟩;unfold y4 at hd
 split at hd
 ·obtain⟨rfl,_⟩:=hd
  exact up hz (by omega) (by omega)
 rename_i hr
 have ez:S5 x=true:=by
  have:mG x=true:=by simpa using hr
  unfold mG at this;rw[aB]at this;exact this.1
 unfold S5 at ez
 split at hd
 ·rename_i h1
  rw[aC h1,aB]at ez;have e:N'=(lW qt N x).1:=by rw[<-hd]
  rw[e];exact up (acw h hT ez.2) (by omega) (by omega)
 rename_i h1;rw[if_neg h1]at ez
 split at hd
 ·have e:N'=(qj N x).1:=by rw[<-hd]
  rw[e];exact up (agI h x) (by omega) (by omega)
 rename_i h2;rw[if_neg h2]at ez
 split at hd
 ·rw[hd.1]
  exact up (Nh h) (by omega) (by omega)
 split at hd
 ·rw[hd.1]
  exact up (agK h x.dr) (by omega) (by omega)
 split at hd
 ·rename_i h5
  rw[aC h5]at ez;rw[hd.1];exact up (acy h hx.ca ez (hx.s.c.1) hj) (by omega) (by omega)
 split at hd
 ·obtain⟨kc,h6,rfl,_⟩:=hd
  exact up (agH h h6) (by omega) (by omega)
 split at hd
 ·rw[hd.1]
  exact up (acz h) (by omega) (by omega)
 ·obtain⟨A',oK,kc,rfl,_,h8⟩:=hd
  exact up ⟨h.KI h8.f h8.nb h8.ns h8.gr hj,rfl,rfl,rfl⟩ (by omega) (by omega)
variable {qt:Int}{N N':fw}{j k:Nat}
structure SB(s t:kl):Prop where
 i:t.id=s.id
 (se:t.tg=s.tg)
 p:t.jV=s.jV
 pa:t.part=s.part
theorem My(s:kl)(bQ:Int):SB s (kX s bQ).1:=by
 unfold kX
 repeat' split
 all_goals exact⟨rfl,rfl,rfl,rfl⟩
theorem ahR(s:kl)(L:List Kd)(y:gX)(bQ:Int)(h:(jk s L y bQ).2=true):SB s (jk s L y bQ).1:=by
 unfold jk at h⊢
 repeat' split
 all_goals first|exact⟨rfl,rfl,rfl,rfl⟩|(exfalso;simp_all;done)|skip
structure afg(N:fw)(s:kl):Prop where
 (se:s.tg=N.n)
 pn:s.jV≠N.n
 p:1<=s.jV/\s.jV<=N.c.jv
 (r:1<=s.round)
 i:s.id<=N.dO
def Mp(a b:kl):Prop:=a.jV≠b.jV/\a.id<b.id
structure SI(N:fw):Prop where
 ok:∀s∈N.l,afg N s
 ap:N.l.Pairwise Mp
theorem FC(bQ:Int):∀(l:List kl) (a:fw×List kl),(l.foldl (Au bQ) a).2=a.2++((l.map λs=>(kX s bQ).1).filter λt=>decide (0<t.round))
 |[],a=>by simp
 |s::l,a=>by
  rw[gd,FC bQ l];unfold Au;simp only[aZ,mO];split
  ·rename_i h;rw[aC (by simpa using h)];simp
  ·rename_i h;rw[if_neg (by simpa using h)]
theorem aga(h:SI N):SI (lO N).1:=by
 unfold lO;split
 ·exact h
 have hb:=vM (N.bQ+1) N.l (N.at (N.bQ+1),[]);have h2:=FC (N.bQ+1) N.l (N.at (N.bQ+1),[]);rw[bV]at h2;have e:=hb.e;generalize N.l.foldl (Au (N.bQ+1)) (N.at (N.bQ+1),[])=Z at*;obtain⟨M,l⟩:=Z;simp only at h2 e⊢;subst h2;refine⟨λt ht=>?_,?_⟩
 ·obtain⟨ht,hr⟩:=cH.1 ht
  obtain⟨s,hs,rfl⟩:=aV.1 ht;have h1:=h.ok s hs;have h3:=My s (N.bQ+1);have hr:=ah hr;refine⟨?_,?_,?_,by omega,?_⟩
  ·show _=M.n;rw[e,h3.se];exact h1.se
  ·show _≠M.n;rw[e,h3.p];exact h1.pn
  ·show _/\_<=M.c.jv;rw[e,h3.p];exact h1.p
  ·show _<=M.dO;rw[e,h3.i];exact h1.i
 ·show(List.filter _ (List.map _ N.l)).Pairwise Mp
  refine List.Pairwise.filter _ ?_;rw[cG]
  exact h.ap.imp λ{a b} hab=>by
   have h3:=My a (N.bQ+1);have h4:=My b (N.bQ+1);exact⟨by rw[h3.p,h4.p];exact hab.1,by rw[h3.i,h4.i];exact hab.2⟩
theorem SI.eq(h:SI N)(hn:N'.n=N.n)(hc:N'.c=N.c)(hl:N'.l=N.l)(AG:N'.dO=N.dO):SI N':=by
 refine⟨λs hs=>?_,by rw[hl];exact h.ap⟩;rw[hl]at hs;have h1:=h.ok s hs;exact⟨by rw[hn];exact h1.se,by rw[hn];exact h1.pn,by rw[hc];exact h1.p,h1.r,by rw[AG];exact h1.i⟩
theorem SI.box{n:Nat}(h:SI N)(hb:y7 N N' n):SI N':=by
 have e:=hb.e;exact h.eq (by rw[e]) (by rw[e]) (by rw[e]) (by rw[e])
theorem SI.fT(h:SI N)(qt:Int)(L:List Kd):SI (N.fT qt L).1:=by
 have e:=vW qt L N;exact h.eq (by rw[e]) (by rw[e]) (by rw[e]) (by rw[e])
variable{l:List Int}
theorem ack{d:Int}(h:(lV l d).2=0):(lV l d).1∈l:=by
 unfold lV at h⊢
 split at h
 ·cases h
 ·rename_i h0
  rw[if_neg h0];have bH:d.toNat%l.length<l.length:=fo _ (by omega)
  show l.getD (d.toNat%l.length) 0∈l
  rw[aI,az bH];exact aO bH
variable{c:Rc}
theorem acl{a x:Int}(h:x∈kw c a):1<=x/\x<=c.jv:=by
 have h1:=(cH.1 h).1;obtain⟨i,hi,rfl⟩:=aV.1 h1;have:=dS.1 hi;omega
structure arG(N:fw)(d:Int)(x:kl):Prop where
 i:x.id=N.dO+1
 (se:x.tg=N.n)
 p:x.jV=(lV (kw N.c N.n) d).1
 pn:x.jV≠N.n
 (r:x.round=1)
theorem VE{d:Int}(h:(qs N d).2=0):arG N d (qs N d).1:=by
 unfold qs uD at h⊢
 split at h
 ·rename_i h1
  rw[aC h1];rw[aB]at h1;have h2:=h1.2;unfold gx at h2;simp only[aB,bne_iff_ne]at h2;exact⟨rfl,rfl,rfl,λe=>h2.1.2.2 e.symm,rfl⟩
 ·cases h
theorem agc(h:SI N)(d:Int):SI (oC N d).1:=by
 unfold oC;split
 ·exact h
 rename_i h1;split
 ·exact h
 rename_i h2;split
 ·exact h
 rename_i h3;have hb:=VE (N:=N) (d:=d) (by simpa using h3);have hp:=acl (ack (l:=kw N.c N.n) (d:=d) (by simpa using h1));generalize (qs N d).1=x at*
 show SI ((N.add x).CR x)
 refine SI.box ?_ (rp _ _);refine⟨λs hs=>?_,?_⟩
 ·rcases aR.1 (show s∈N.l++[x] from hs)with hs|hs
  ·have h4:=h.ok s hs
   exact⟨h4.se,h4.pn,h4.p,h4.r,by have:=h4.i;show s.id<=N.dO+1;omega⟩
  ·rw[aL.1 hs]
   exact⟨hb.se,hb.pn,by rw[hb.p];exact hp,by rw[hb.r];omega,by rw[hb.i];exact C0 _⟩
 ·show(N.l++[x]).Pairwise Mp
  refine cm.2 ⟨h.ap,Fu _ _,λa ha b qB=>?_⟩;rw[aL.1 qB];refine⟨λe=>h2 ?_,?_⟩
  ·rw[dh]
   exact⟨a,ha,by rw[e,hb.p];simp⟩
  ·have:=(h.ok a ha).i
   rw[hb.i];omega
variable{i:Nat}
theorem aks{l:List kl}{x:kl}(h:l.Pairwise Mp)(hi:i<l.length)(hx:SB l[i] x):(l.set i x).Pairwise Mp:=by
 rw[dz]at h⊢;intro a b ha hb hab;rw[fc]at ha hb;have h1:=h a b ha hb hab;rw[qy,qy]
 split<;>rename_i e1<;>split<;>rename_i e2
 ·omega
 ·subst e1;exact⟨by rw[hx.p];exact h1.1,by rw[hx.i];exact h1.2⟩
 ·subst e2;exact⟨by rw[hx.p];exact h1.1,by rw[hx.i];exact h1.2⟩
 ·exact h1
variable{s:kl}{bQ:Int}
theorem Vc{y:gX}(h:(jk s L y bQ).2=true)(h1:1<=s.round):(jk s L y bQ).1.round=0\/1<=(jk s L y bQ).1.round:=by
 unfold jk at h⊢
 repeat' split
 all_goals first|exact .inl rfl|(refine .inr ?_;show 1<=s.round+1;omega)
theorem Rg{y:gX}(h:Ca s L y bQ=0):(jk s L y bQ).2=true:=by
 unfold Ca at h
 split at h
 ·cases h
 split at h
 ·cases h
 split at h
 ·cases h
 split at h
 ·cases h
 ·rename_i h2;simpa using h2
theorem ae7{l:List kl}{id:Int}(h:atS l id=some i):i<l.length:=(List.findIdx?_eq_some_iff_getElem.1 h).1
theorem agb(h:SI N)(qt:Int)(y:gX):SI (vf qt N y).1:=by
 unfold vf;split
 ·exact h
 rename_i i e;have hi:=ae7 e;have NU:N.l.getD i oW=N.l[i]:=by rw[aI,az hi];rfl
 rw[NU];have hx:=h.ok N.l[i] (aO hi);have hp:=h.fT qt (gn N.s.L y.ca).2;have ho:=vW qt (gn N.s.L y.ca).2 N;unfold DS;split
 ·exact h
 rename_i he;have h2:=Rg (s:=N.l[i]) (L:=N.s.L) (y:=y) (bQ:=N.bQ) (by simpa using he);have hsb:=ahR N.l[i] N.s.L y N.bQ h2;have hrd:=Vc h2 hx.r;split
 ·exact h
 split
 ·exact hp
 generalize (jk N.l[i] N.s.L y N.bQ).1=x' at*;generalize (N.fT qt (gn N.s.L y.ca).2).1=M at*;have en:M.n=N.n:=by rw[ho]
 have ec:M.c=N.c:=by rw[ho]
 have el:M.dO=N.dO:=by rw[ho]
 split
 ·refine⟨λs hs=>?_,?_⟩
  ·have hs:s∈N.l:=by
    rcases aR.1 (show s∈N.l.take i++N.l.drop (i+1) from hs)with hs|hs
    ·exact bX hs
    ·exact fk hs
   have h4:=h.ok s hs;exact⟨by show _=M.n;rw[en];exact h4.se,by show _≠M.n;rw[en];exact h4.pn,by show _/\_<=M.c.jv;rw[ec];exact h4.p,h4.r,by show _<=M.dO;rw[el];exact h4.i⟩
  ·show(N.l.take i++N.l.drop (i+1)).Pairwise Mp
   rw[<-List.eraseIdx_eq_take_drop_succ];exact h.ap.sublist (List.eraseIdx_sublist _ _)
 ·rename_i hr0
  show SI (fw.CR _ _)
  refine SI.box ?_ (rp _ _);refine⟨λs hs=>?_,aks h.ap hi hsb⟩;have key:∀s,afg N s->afg {M with l:=N.l.set i x'} s:=λs h4=>⟨by show _=M.n;rw[en];exact h4.se,by show _≠M.n;rw[en];exact h4.pn,by show _/\_<=M.c.jv;rw[ec];exact h4.p,h4.r,by show _<=M.dO;rw[el];exact h4.i⟩;refine key s ?_;rcases fa (show s∈N.l.set i x' from hs)with hs|rfl
  ·exact h.ok s hs
  ·exact⟨by rw[hsb.se];exact hx.se,by rw[hsb.p];exact hx.pn,by rw[hsb.p];exact hx.p,hrd.resolve_left hr0,by rw[hsb.i];exact hx.i⟩
theorem abC(h:SI N)(qt:Int)(y:gX):SI (mK qt N y).1:=by
 unfold mK;split
 ·exact h
 split
 ·exact h
 split
 ·unfold qc
  split
  ·exact h
  split
  ·exact h.fT qt _
  ·exact(h.fT qt (tC N.s.L y).2.1).eq rfl rfl rfl rfl
 split
 ·split
  ·unfold A9
   dsimp only;split
   ·exact h.eq rfl rfl rfl rfl
   ·exact h
  ·exact h
 ·exact agb h qt y
theorem aiY(h:SI N)(hd:y4 qt N x N' y):SI N':=by
 unfold y4 at hd
 split at hd
 ·obtain⟨rfl,_⟩:=hd;exact h
 split at hd
 ·have e:N'=(lW qt N x).1:=by rw[<-hd]
  rw[e];unfold lW;split
  ·exact h
  split
  ·exact h
  split
  ·exact h
  ·exact SI.box (N:=(N.put (x.key,(Jc (gh N.s.L x.key) N.n x.op).1)).nX ⟨x.id,0,[]⟩) (h.eq rfl rfl rfl rfl) (rL _ _ _)
 split at hd
 ·have e:N'=(qj N x).1:=by rw[<-hd]
  rw[e];unfold qj;split
  ·exact h
  ·exact h.eq rfl rfl rfl rfl
 split at hd
 ·rw[hd.1];exact aga h
 split at hd
 ·rw[hd.1];exact agc h x.dr
 split at hd
 ·rw[hd.1];exact abC h qt x.AB
 split at hd
 ·obtain⟨kc,_,rfl,_⟩:=hd
  exact h.eq rfl rfl rfl rfl
 split at hd
 ·rw[hd.1];exact h.eq rfl rfl rfl rfl
 ·obtain⟨A',oK,kc,rfl,_,_⟩:=hd
  exact h.eq rfl rfl rfl rfl
variable {qt:Int}{N N':fw}{j k e:Nat}
theorem K4(r:Int)(hr:0<=r):∀(l dE:List Int),(dE.length:Int)<=r->((iM r dE l).length:Int)<=r
 |[],dE,h=>h
 |x::l,dE,h=>by
  unfold iM;refine K4 r hr l _ ?_;split
  ·rename_i h1
   simp only[aB,bA]at h1;rw[ax,eV];have:=h1.1;omega
  ·exact h
theorem Ul(hr:0<=c.xm/\c.xm<=3)(k:ByteArray)(n:Int):(ko c k n).length<=3:=by
 refine bq (bC _ _) ?_;unfold wW;split
 ·unfold sB
  split
  ·simp
  ·exact Int.ofNat_le.1 (Int.le_trans (K4 c.xm hr.1 _ [] (by simpa using hr.1)) hr.2)
 ·simp
theorem aki(h:SI N)(hn:1<=N.n/\N.n<=3)(hc:N.c.jv=3):N.l.length<=2:=by
 refine Nat.not_lt.1 λh3=>?_;have h0:=h.ok N.l[0] (aO (by omega));have h1:=h.ok N.l[1] (aO (by omega));have h2:=h.ok N.l[2] (aO h3);have hp:=dz.1 h.ap;have a1:=(hp 0 1 (by omega) (by omega) (by omega)).1;have a2:=(hp 0 2 (by omega) (by omega) (by omega)).1;have a3:=(hp 1 2 (by omega) (by omega) (by omega)).1;have b0:=h0.p;have b1:=h1.p;have b2:=h2.p;have c0:=h0.pn;have c1:=h1.pn;have c2:=h2.pn;omega
structure SZ(e:Nat)(N:fw):Prop where
 o:N.B.dE.length<=3*e
 (an:N.B.o7.length<=e)
 bQ:0<=N.bQ/\N.bQ<=e
 dO:0<=N.dO/\N.dO<=e
theorem SZ.up(h:SZ e N):SZ (e+1) N:=⟨by have:=h.o;omega,by have:=h.an;omega,by have:=h.bQ;omega,by have:=h.dO;omega⟩
theorem SZ.eq(h:SZ e N)(hB:N'.B=N.B)(hn:N'.bQ=N.bQ)(hl:N'.dO=N.dO):SZ e N':=⟨by rw[hB];exact h.o,by rw[hB];exact h.an,by rw[hn];exact h.bQ,by rw[hl];exact h.dO⟩
theorem xR(N:fw)(x:gX):(N.send x).B.o7=N.B.o7:=by
 show(N.B.send x _).o7=_
 unfold kf.send
 split<;>rfl
theorem MO(N:fw)(x:kl):(N.CR x).B.o7=N.B.o7:=by
 unfold fw.CR;split
 ·exact xR N _
 ·rfl
theorem KZ(x:Kd):∀(l:List Int) (N:fw),(N.x5 l x).B.o7=N.B.o7
 |[],N=>rfl
 |t::l,N=>by
  have h:=KZ x l (N.push t x)
  have h2:(N.push t x).B.o7=N.B.o7:=by
   unfold fw.push;split
   ·exact xR N _
   ·rfl
  rw[<-h2,<-h];rfl
theorem Wj(bQ:Int):∀(l:List kl) (a:fw×List kl),(l.foldl (Au bQ) a).1.B.o7=a.1.B.o7
 |[],a=>rfl
 |s::l,a=>by
  rw[gd,Wj bQ l];unfold Au;split
  ·exact MO _ _
  ·rfl
theorem SZ.box{n:Nat}(h:SZ e N)(hb:y7 N N' n)(ha:N'.B.o7=N.B.o7)(hn:n<=3):SZ (e+1) N':=by
 have e1:=hb.e;have e2:=hb.l;have h1:=h.bQ;have h2:=h.dO;refine⟨by have:=h.o;omega,by rw[ha];have:=h.an;omega,?_,?_⟩
 ·rw[e1];show 0<=N.bQ/\N.bQ<=_;omega
 ·rw[e1];show 0<=N.dO/\N.dO<=_;omega
theorem SZ.fT(h:SZ e N)(qt:Int)(L:List Kd):SZ e (N.fT qt L).1:=by
 have e1:=vW qt L N;exact h.eq (by rw[e1]) (by rw[e1]) (by rw[e1])
theorem SZ.as1(h:SZ e N)(x:kl):SZ (e+1) (N.CR x):=h.box (rp N x) (MO N x) (by omega)
theorem af4(h:SZ e N)(qt:Int)(y:gX):SZ (e+1) (vf qt N y).1:=by
 unfold vf;split
 ·exact h.up
 rename_i i _;unfold DS;split
 ·exact h.up
 split
 ·exact h.up
 split
 ·exact(h.fT qt _).up
 have hp:=h.fT qt (gn N.s.L y.ca).2;split
 ·exact SZ.up (by exact hp.eq rfl rfl rfl)
 ·show SZ _ (fw.CR _ _)
  refine SZ.as1 ?_ _;exact SZ.eq hp rfl rfl rfl
theorem abu(h:SZ e N)(qt:Int)(y:gX):SZ (e+1) (mK qt N y).1:=by
 unfold mK;split
 ·exact h.up
 split
 ·exact h.up
 split
 ·unfold qc
  split
  ·exact h.up
  split
  ·exact(h.fT qt _).up
  ·have hp:=h.fT qt (tC N.s.L y).2.1
   show SZ _ (fw.send _ _)
   refine hp.box (n:=1) ⟨rfl,GB _ _⟩ (xR _ _) (by omega)
 split
 ·split
  ·unfold A9
   dsimp only;split
   ·exact SZ.up (by exact h.eq rfl rfl rfl)
   ·exact h.up
  ·exact h.up
 ·exact af4 h qt y
theorem aiQ(h:SZ e N)(hc:0<=N.c.xm/\N.c.xm<=3)(hl:N.l.length<=3)(hd:y4 qt N x N' y):SZ (e+1) N':=by
 unfold y4 at hd
 split at hd
 ·obtain⟨rfl,_⟩:=hd;exact h.up
 split at hd
 ·have e1:N'=(lW qt N x).1:=by rw[<-hd]
  rw[e1];unfold lW;split
  ·exact h.up
  split
  ·exact h.up
  split
  ·exact h.up
  ·have ho:=Ul hc x.key N.n
   generalize (x.key,(Jc (gh N.s.L x.key) N.n x.op).1)=kd at*;have hb:=rL kd (ko N.c x.key N.n) ((N.put kd).nX ⟨x.id,0,[]⟩);have ha:=KZ kd (ko N.c x.key N.n) ((N.put kd).nX ⟨x.id,0,[]⟩);have e2:=hb.e;have e3:=hb.l;have h0:((N.put kd).nX ⟨x.id,0,[]⟩).B.dE.length=N.B.dE.length:=rfl;have h4:((N.put kd).nX ⟨x.id,0,[]⟩).B.o7.length=N.B.o7.length+1:=by show(N.B.o7++[_]).length=_;rw[ax];rfl
   have h1:=h.bQ;have h2:=h.dO;refine⟨by have:=h.o;dsimp only;omega,by dsimp only;rw[ha,h4];have:=h.an;omega,?_,?_⟩
   ·dsimp only;rw[e2];show 0<=N.bQ/\N.bQ<=_;omega
   ·dsimp only;rw[e2];show 0<=N.dO/\N.dO<=_;omega
 split at hd
 ·have e1:N'=(qj N x).1:=by rw[<-hd]
  rw[e1];unfold qj;split
  ·exact h.up
  ·have h1:=h.bQ
   have h2:=h.dO;exact⟨by show N.B.dE.length<=_;have:=h.o;omega,by show(N.B.o7++[_]).length<=_;rw[ax,eV];have:=h.an;omega,by show 0<=N.bQ/\N.bQ<=_;omega,by show 0<=N.dO/\N.dO<=_;omega⟩
 split at hd
 ·rw[hd.1]
  unfold lO;split
  ·exact h.up
  ·have hb:=vM (N.bQ+1) N.l (N.at (N.bQ+1),[])
   have ha:=Wj (N.bQ+1) N.l (N.at (N.bQ+1),[]);have e2:=hb.e;have e3:=hb.l;generalize N.l.foldl (Au (N.bQ+1)) (N.at (N.bQ+1),[])=Z at*;have h1:=h.bQ;have h2:=h.dO;have h3:(N.at (N.bQ+1)).B.dE.length=N.B.dE.length:=rfl;simp only at e3 ha;refine⟨by show Z.1.B.dE.length<=_;have:=h.o;omega,by show Z.1.B.o7.length<=_;rw[ha];show N.B.o7.length<=_;have:=h.an;omega,?_,?_⟩
   ·show 0<=Z.1.bQ/\Z.1.bQ<=_;rw[e2];show 0<=N.bQ+1/\N.bQ+1<=_;omega
   ·show 0<=Z.1.dO/\Z.1.dO<=_;rw[e2];show 0<=N.dO/\N.dO<=_;omega
 split at hd
 ·rw[hd.1]
  unfold oC;split
  ·exact h.up
  split
  ·exact h.up
  split
  ·exact h.up
  ·have h1:=h.bQ
   have h2:=h.dO;generalize (qs N x.dr).1=z;have hb:=rp (N.add z) z;have e2:=hb.e;have e3:=hb.l;have h3:(N.add z).B.dE.length=N.B.dE.length:=rfl;refine⟨by show((N.add z).CR z).B.dE.length<=_;have:=h.o;omega,by show((N.add z).CR z).B.o7.length<=_;rw[MO];show N.B.o7.length<=_;have:=h.an;omega,?_,?_⟩
   ·show 0<=((N.add z).CR z).bQ/\((N.add z).CR z).bQ<=_;rw[e2];show 0<=N.bQ/\N.bQ<=_;omega
   ·show 0<=((N.add z).CR z).dO/\((N.add z).CR z).dO<=_;rw[e2];show 0<=N.dO+1/\N.dO+1<=_;omega
 split at hd
 ·rw[hd.1];exact abu h qt x.AB
 split at hd
 ·obtain⟨kc,_,rfl,_⟩:=hd
  exact SZ.up (by exact h.eq rfl rfl rfl)
 split at hd
 ·rw[hd.1];exact SZ.up (by exact h.eq rfl rfl rfl)
 ·obtain⟨A',oK,kc,rfl,_,_⟩:=hd
  have h1:=h.bQ;have h2:=h.dO;refine⟨?_,?_,by show 0<=N.bQ/\N.bQ<=_;omega,by show 0<=N.dO/\N.dO<=_;omega⟩
  ·show(if _ then N.B.shift else N.B).dE.length<=_
   have:=h.o;split
   ·show(N.B.dE.map _).length<=_;rw[aH];omega
   ·omega
  ·show(if _ then N.B.shift else N.B).o7.length<=_
   have:=h.an;split
   ·show(N.B.o7.map _).length<=_;rw[aH];omega
   ·omega
theorem HA:iR l n=true↔(∀p∈l,mV p=n)/\l.Pairwise (· < ·)/\0<l.length:=by
 have hO:∀i,BY l n i=true↔mV (l.getD i 0)=n/\(i=0\/l.getD (i-1) 0<l.getD i 0):=λi=>by
  simp only[BY,aB,eM,bA]
 simp only[iR,aB,bL,dS,bA,hO]
 constructor
 ·rintro⟨ha,h0⟩
  refine⟨λp hp=>?_,?_,h0⟩
  ·obtain⟨i,hi,rfl⟩:=dc hp
   have:=(ha i hi).1;rw[<-ly hi]at this;exact this
  ·rw[dz]
   intro i j hi hj ZD;obtain⟨d,rfl⟩:∃d,j=i+1+d:=⟨j-(i+1),by omega⟩
   induction d with
   |zero=>
    have:=(ha (i+1) hj).2.resolve_left (by omega);rw[ly hi,ly hj];simpa using this
   |succ d ih=>
    have h1:=ih (by omega);have h2:=(ha (i+1+(d+1)) hj).2.resolve_left (by omega);rw[<-ly hj,show i+1+(d+1)-1=i+1+d by omega,<-ly (show i+1+d<l.length by omega)]at h2;omega
 ·rintro⟨h1,h2,h0⟩
  refine⟨λi hi=>⟨?_,?_⟩,h0⟩
  ·rw[<-ly hi];exact h1 _ (aO hi)
  ·by_cases e:i=0
   ·exact .inl e
   ·refine .inr ?_
    rw[<-ly hi,<-ly (show i-1<l.length by omega)];exact dz.1 h2 (i-1) i (by omega) hi (by omega)
theorem NE{p x:Int}(h:x∈Tr.mI p):(0<=p/\p<5)/\4*p+1<=x/\x<=4*p+4:=by
 unfold Tr.mI at h
 split at h
 ·rename_i hp
  simp only[aU,fG,rH]at h;omega
 ·cases h
theorem acV{p x:Int}(hp:mV p=n)(hx:x∈Tr.mI p):mV x=n+1:=by
 obtain⟨h1,h2⟩:=NE hx;subst hp;unfold mV
 repeat' split
 all_goals omega
theorem ac5(h:l.Pairwise (· < ·)):(Tr.fV l).Pairwise (· < ·):=by
 unfold Tr.fV;rw[List.pairwise_flatMap];refine⟨λp _=>?_,h.imp λ{a b} hab x hx y hy=>?_⟩
 ·unfold Tr.mI
  split
  ·refine List.Pairwise.cons (λx hx=>?_) (List.Pairwise.cons (λx hx=>?_) (List.Pairwise.cons (λx hx=>?_) (List.Pairwise.cons (λx hx=>by cases hx) List.Pairwise.nil)))<;>simp at hx<;>omega
  ·exact List.Pairwise.nil
 ·have h1:=(NE hx).2
  have h2:=(NE hy).2;omega
theorem Mw(t:List Nat):∀(ks:List Int) (ds:List (List Nat)),(Tr.I6 t ks ds).Sublist ks
 |[],ds=>by simp[Tr.I6]
 |k::ks,[]=>by simp[Tr.I6]
 |k::ks,d::ds=>by
  unfold Tr.I6;split
  ·exact(Mw t ks ds).cons _
  ·exact(Mw t ks ds).cons_cons _
theorem UH{t:List Nat}{D:List (List Nat)}(h:iR l n=true)(h0:¬z1 t l D=[]):iR (z1 t l D) (n+1)=true:=by
 obtain⟨h1,h2,_⟩:=HA.1 h
 have hs:(z1 t l D).Sublist (Tr.fV l):=by
  unfold z1;split
  ·exact Mw _ _ _
  ·exact wQ _
 refine HA.2 ⟨λp hp=>?_,(ac5 h2).sublist hs,qS.2 h0⟩;obtain⟨q,hq,hpq⟩:=iu.1 (hs.subset hp);exact acV (h1 q hq) hpq
theorem jt{x:kl}:gx x=true↔(1<=x.tg/\x.tg<=8)/\(1<=x.jV/\x.jV<=8)/\x.tg≠x.jV/\(1<=x.id/\x.id<=1099511627776)/\(0<=x.part/\x.part<=7)/\(0<=x.round/\x.round<=3)/\pW x.round x.pl=true/\x.gD.ok=true/\(0<=x.Oo/\x.Oo<=2199023255552):=by
 simp only[gx,aB,bne_iff_ne,B6,and_assoc]
variable{w:Bk}
theorem PP(h:w.ok=true):w.lR.ok=true:=by
 unfold Bk.lR;rw[aC h];obtain⟨h1,h2,h3,h4⟩:=Bk.lj.1 h;exact Bk.lj.2 ⟨h1,h2,h3,by simp⟩
theorem agP(h:w.ok=true):w.next.ok=true:=by
 unfold Bk.next;split
 ·rename_i hh
  simp only[aB,bA]at hh;obtain⟨h1,h2,h3,h4⟩:=Bk.lj.1 h;exact Bk.lj.2 ⟨h1,h2,h3,by show 0<=w.gI+1/\w.gI+1<=_;omega⟩
 ·exact h
theorem TY{x:kl}(h:gx x=true)(hn:0<=bQ/\bQ<=1000000):gx (kX x bQ).1=true:=by
 obtain⟨h1,h2,h3,h4,h5,h6,h7,h8,h9⟩:=jt.1 h;unfold kX;split
 ·exact h
 split
 ·exact jt.2 ⟨h1,h2,h3,h4,h5,by show 0<=(0:Int)/\(0:Int)<=3;omega,rfl,h8,h9⟩
 ·have:=DV x.gD.next
  exact jt.2 ⟨h1,h2,h3,h4,h5,h6,h7,agP h8,by show 0<=bQ+x.gD.next.H6/\bQ+x.gD.next.H6<=_;omega⟩
theorem TZ{x:kl}{y:gX}(h:gx x=true)(hr:1<=x.round)(hn:0<=bQ/\bQ<=1000000)(h2:(jk x L y bQ).2=true):gx (jk x L y bQ).1=true:=by
 obtain⟨g1,g2,g3,g4,g5,g6,g7,g8,g9⟩:=jt.1 h;have he:gx (Bp x)=true:=jt.2 ⟨g1,g2,g3,g4,g5,by show 0<=(0:Int)/\(0:Int)<=3;omega,rfl,g8,g9⟩;unfold jk at h2⊢
 split at h2
 ·rename_i k1;rw[aC k1];exact he
 rename_i k1;rw[if_neg k1]
 split at h2
 ·rename_i k2;rw[aC k2];exact he
 rename_i k2;rw[if_neg k2]
 split at h2
 ·cases h2
 rename_i k3;rw[if_neg k3]
 split at h2
 ·rename_i k4;rw[aC k4];exact he
 rename_i k4;rw[if_neg k4];simp only[not_or,not_and,lM]at k3
 have hrd:x.round=1\/x.round=2:=by
  by_cases e:x.round=1
  ·exact .inl e
  ·exact .inr (k3.2.1 e)
 have CU:=k3.2.2
 have U2:iR y.pl (x.round-1)=true:=by
  rw[CU];unfold atF;rcases hrd with e|e
  ·rw[aC e,e];rfl
  ·rw[if_neg (by omega),e]
   have:=g7;rw[pW,if_neg (by omega),e]at this;exact this
 have vd:=UH U2 k4;have hg:=DV x.gD.lR;refine jt.2 ⟨g1,g2,g3,g4,g5,by show 0<=x.round+1/\x.round+1<=3;omega,?_,PP g8,by show 0<=bQ+x.gD.lR.H6/\bQ+x.gD.lR.H6<=_;omega⟩
 show pW (x.round+1) _=true
 rw[pW,if_neg (by omega),show x.round+1-1=x.round-1+1 by omega];exact vd
variable {qt:Int}{N N':fw}{j k e:Nat}
structure V4(bQ:Int)(s:kl):Prop where
 r:gx s=true
 (b:s.gD.gM=1/\s.gD.cap=4/\s.gD.dG=3)
 (t:s.gD.gI<=3)
 d:s.Oo<=bQ+4
theorem aqT(h:w.cap=4):w.H6<=4:=by
 unfold Bk.H6
 split<;>omega
def mW(bQ:Int)(s:kl):Int:=(3-s.gD.gI)*5+max (s.Oo-bQ) 0
theorem Kn(h:V4 bQ s)(hr:gx (vT s n l bQ)=true):V4 bQ (vT s n l bQ):=by
 have hw:=(jt.1 h.r).2.2.2.2.2.2.2.1;have e:s.gD.lR={s.gD with gI:=0}:=by unfold Bk.lR;rw[aC hw]
 have hg:=aqT (w:=s.gD.lR) (by rw[e];exact h.b.2.1);refine⟨hr,?_,?_,?_⟩
 ·show s.gD.lR.gM=1/\s.gD.lR.cap=4/\s.gD.lR.dG=3
  rw[e];exact h.b
 ·show s.gD.lR.gI<=3
  rw[e];show(0:Int)<=3;omega
 ·show bQ+s.gD.lR.H6<=bQ+4
  omega
theorem aa6(h:V4 bQ s)(hn:0<=bQ/\bQ<1000000)(hr:1<=s.round)(hl:0<(kX s (bQ+1)).1.round):V4 (bQ+1) (kX s (bQ+1)).1/\mW (bQ+1) (kX s (bQ+1)).1+1<=mW bQ s/\0<=mW bQ s:=by
 have hR:=TY h.r (bQ:=bQ+1) (by omega);obtain⟨g1,g2,g3,g4,g5,g6,g7,g8,g9⟩:=jt.1 h.r;obtain⟨b1,b2,b3,b4⟩:=Bk.lj.1 g8;have hb:=h.b;have ht:=h.t;have hd:=h.d;have h0:0<=mW bQ s:=by unfold mW;omega
 have xr:ql (bQ+1)=true:=B6.2 (by omega);unfold kX at hl hR⊢
 split at hl
 ·rename_i h1
  rw[aC h1]at hR⊢
  have bH:bQ+1<s.Oo:=by
   rcases h1 with h1|h1|h1|h1
   ·rw[h.r]at h1;cases h1
   ·omega
   ·rw[xr]at h1;cases h1
   ·exact h1
  refine⟨⟨h.r,hb,ht,by show s.Oo<=bQ+1+4;omega⟩,?_,h0⟩
  show mW (bQ+1) s+1<=mW bQ s
  unfold mW;omega
 ·rename_i h1
  rw[if_neg h1]at hR⊢;simp only[not_or]at h1
  split at hl
  ·exact absurd hl (by show ¬(0:Int)<0;omega)
  ·rename_i h2
   rw[if_neg h2]at hR⊢
   have Ta:¬s.gD.dG<=s.gD.gI:=by
    intro hc
    apply h2
    unfold Bk.PA;rw[bB hc];simp
   have en:s.gD.next={s.gD with gI:=s.gD.gI+1}:=by
    unfold Bk.next;rw[aC (by rw[g8,bB (by omega)];rfl)]
   have hg:=aqT (w:=s.gD.next) (by rw[en];exact hb.2.1);have wA:=(DV s.gD.next).1;refine⟨⟨hR,?_,?_,?_⟩,?_,h0⟩
   ·show s.gD.next.gM=1/\s.gD.next.cap=4/\s.gD.next.dG=3
    rw[en];exact hb
   ·show s.gD.next.gI<=3
    rw[en];show s.gD.gI+1<=3;omega
   ·show bQ+1+s.gD.next.H6<=bQ+1+4
    omega
   ·have et:s.gD.next.gI=s.gD.gI+1:=by rw[en]
    show(3-s.gD.next.gI)*5+max (bQ+1+s.gD.next.H6-(bQ+1)) 0+1<=(3-s.gD.gI)*5+max (s.Oo-bQ) 0
    rw[et];omega
structure WI(N:fw):Prop where
 w:∀s∈N.l,V4 N.bQ s
theorem aa7(h:V4 bQ s):mW bQ s<=19:=by
 have h1:=(Bk.lj.1 (jt.1 h.r).2.2.2.2.2.2.2.1).2.2.2.1;have:=h.d;unfold mW;omega
theorem WI.eq(h:WI N)(hn:N'.bQ=N.bQ)(hl:N'.l=N.l):WI N':=⟨λs hs=>by rw[hn];rw[hl]at hs;exact h.w s hs⟩
theorem WI.box{n:Nat}(h:WI N)(hb:y7 N N' n):WI N':=h.eq (by rw[hb.e]) (by rw[hb.e])
theorem WI.fT(h:WI N)(qt:Int)(L:List Kd):WI (N.fT qt L).1:=h.eq (by rw[vW]) (by rw[vW])
theorem Wg(h:WI N)(hS:SI N)(hn:0<=N.bQ/\N.bQ<1000000):WI (lO N).1/\∀b:Int,(∀s∈N.l,mW N.bQ s<=b)->∀s∈(lO N).1.l,mW (lO N).1.bQ s<=b-1/\0<=b:=by
 have hb:=vM (N.bQ+1) N.l (N.at (N.bQ+1),[]);have h2:=FC (N.bQ+1) N.l (N.at (N.bQ+1),[]);rw[bV]at h2;have e:=hb.e
 have eT:(lO N).1={(N.l.foldl (Au (N.bQ+1)) (N.at (N.bQ+1),[])).1 with l:=(N.l.foldl (Au (N.bQ+1)) (N.at (N.bQ+1),[])).2}:=by
  unfold lO;rw[if_neg (by omega)]
 rw[eT];generalize N.l.foldl (Au (N.bQ+1)) (N.at (N.bQ+1),[])=Z at*;obtain⟨M,l⟩:=Z;simp only at h2 e;subst h2;have en:M.bQ=N.bQ+1:=by rw[e];rfl
 have key:∀t∈(N.l.map λs=>(kX s (N.bQ+1)).1).filter λt=>decide (0<t.round),∃s∈N.l,V4 (N.bQ+1) t/\mW (N.bQ+1) t+1<=mW N.bQ s/\0<=mW N.bQ s:=λt ht=>by
  obtain⟨ht,hr⟩:=cH.1 ht;obtain⟨s,hs,rfl⟩:=aV.1 ht;exact⟨s,hs,aa6 (h.w s hs) hn (hS.ok s hs).r (ah hr)⟩
 refine⟨⟨λt ht=>?_⟩,λb qB t ht=>?_⟩
 ·obtain⟨s,_,h1,_⟩:=key t ht
  show V4 M.bQ t
  rw[en];exact h1
 ·obtain⟨s,hs,_,h3,h4⟩:=key t ht
  have:=qB s hs
  show mW M.bQ t<=b-1/\0<=b
  rw[en];omega
theorem afU(h:WI N)(hw:N.w=Rl)(hn:0<=N.bQ/\N.bQ<1000000)(d:Int):WI (oC N d).1:=by
 unfold oC;split
 ·exact h
 split
 ·exact h
 split
 ·exact h
 rename_i h3;have h3:(qs N d).2=0:=by simpa using h3
 have hx:V4 N.bQ (qs N d).1:=by
  unfold qs uD at h3⊢
  split at h3
  ·rename_i h1
   rw[aC h1];rw[aB]at h1;have hr:=h1.2;obtain⟨g1,g2,g3,g4,g5,g6,g7,g8,g9⟩:=jt.1 hr;have hg:=DV N.w.lR;have h0:V4 N.bQ ⟨N.dO+1,N.n,(lV (kw N.c N.n) d).1,(lV (ng N.c N.n (lV (kw N.c N.n) d).1) (d/65536)).1,1,[],N.w,0⟩:=⟨hr,by rw[hw];exact⟨rfl,rfl,rfl⟩,by rw[hw];show(0:Int)<=3;omega,by show(0:Int)<=N.bQ+4;omega⟩;refine Kn h0 (jt.2 ⟨g1,g2,g3,g4,g5,by show 0<=(1:Int)/\(1:Int)<=3;omega,rfl,PP g8,by show 0<=N.bQ+N.w.lR.H6/\N.bQ+N.w.lR.H6<=_;omega⟩)
  ·cases h3
 generalize (qs N d).1=x at*
 show WI ((N.add x).CR x)
 refine WI.box ?_ (rp _ _);refine⟨λs hs=>?_⟩;rcases aR.1 (show s∈N.l++[x] from hs)with hs|hs
 ·exact h.w s hs
 ·rw[aL.1 hs];exact hx
theorem aa8{y:gX}(h:V4 bQ s)(hr:1<=s.round)(hn:0<=bQ/\bQ<=1000000)(h2:(jk s L y bQ).2=true)(h0:¬(jk s L y bQ).1.round=0):V4 bQ (jk s L y bQ).1:=by
 have hR:=TZ h.r hr hn h2;unfold jk at hR h2 h0⊢;by_cases k1:s.round=1/\y.kind=4
 ·rw[aC k1]at h0;exact absurd rfl h0
 rw[if_neg k1]at hR h2 h0⊢;by_cases k2:s.round=3/\y.kind=6/\y.pl=s.pl
 ·rw[aC k2]at h0;exact absurd rfl h0
 rw[if_neg k2]at hR h2 h0⊢;by_cases k3:y.kind≠5\/(s.round≠1/\s.round≠2)\/y.pl≠atF s
 ·rw[aC k3]at h2;cases h2
 rw[if_neg k3]at hR h2 h0⊢;by_cases k4:z1 (lN L s.part) y.pl y.dg=[]
 ·rw[aC k4]at h0;exact absurd rfl h0
 rw[if_neg k4]at hR⊢;exact Kn h hR
theorem afT(h:WI N)(hS:SI N)(hn:0<=N.bQ/\N.bQ<1000000)(qt:Int)(y:gX):WI (vf qt N y).1:=by
 unfold vf;split
 ·exact h
 rename_i i e;have hi:=ae7 e;have NU:N.l.getD i oW=N.l[i]:=by rw[aI,az hi];rfl
 rw[NU];have hx:=hS.ok N.l[i] (aO hi);have hw:=h.w N.l[i] (aO hi);have hp:=h.fT qt (gn N.s.L y.ca).2;have ho:=vW qt (gn N.s.L y.ca).2 N;unfold DS;split
 ·exact h
 rename_i he;have h2:=Rg (s:=N.l[i]) (L:=N.s.L) (y:=y) (bQ:=N.bQ) (by simpa using he);have hwk:=aa8 (L:=N.s.L) (y:=y) hw hx.r (by omega) h2;split
 ·exact h
 split
 ·exact hp
 generalize (jk N.l[i] N.s.L y N.bQ).1=x' at*;generalize (N.fT qt (gn N.s.L y.ca).2).1=M at*;have en:M.bQ=N.bQ:=by rw[ho]
 split
 ·refine⟨λs hs=>?_⟩
  show V4 M.bQ s
  rw[en];rcases aR.1 (show s∈N.l.take i++N.l.drop (i+1) from hs)with hs|hs
  ·exact h.w s (bX hs)
  ·exact h.w s (fk hs)
 ·rename_i hr0
  show WI (fw.CR _ _)
  refine WI.box ?_ (rp _ _);refine⟨λs hs=>?_⟩
  show V4 M.bQ s
  rw[en];rcases fa (show s∈N.l.set i x' from hs)with hs|rfl
  ·exact h.w s hs
  ·exact hwk hr0
theorem abb(h:WI N)(hS:SI N)(hn:0<=N.bQ/\N.bQ<1000000)(qt:Int)(y:gX):WI (mK qt N y).1:=by
 unfold mK;split
 ·exact h
 split
 ·exact h
 split
 ·unfold qc
  split
  ·exact h
  split
  ·exact h.fT qt _
  ·exact(h.fT qt (tC N.s.L y).2.1).eq rfl rfl
 split
 ·split
  ·unfold A9
   dsimp only;split
   ·exact h.eq rfl rfl
   ·exact h
  ·exact h
 ·exact afT h hS hn qt y
theorem aiM(h:WI N)(hS:SI N)(hw:N.w=Rl)(hn:0<=N.bQ/\N.bQ<1000000)(hd:y4 qt N x N' y):WI N':=by
 unfold y4 at hd
 split at hd
 ·obtain⟨rfl,_⟩:=hd;exact h
 split at hd
 ·have e1:N'=(lW qt N x).1:=by rw[<-hd]
  rw[e1];unfold lW;split
  ·exact h
  split
  ·exact h
  split
  ·exact h
  ·exact WI.box (N:=(N.put (x.key,(Jc (gh N.s.L x.key) N.n x.op).1)).nX ⟨x.id,0,[]⟩) (h.eq rfl rfl) (rL _ _ _)
 split at hd
 ·have e1:N'=(qj N x).1:=by rw[<-hd]
  rw[e1];unfold qj;split
  ·exact h
  ·exact h.eq rfl rfl
 split at hd
 ·rw[hd.1];exact(Wg h hS hn).1
 split at hd
 ·rw[hd.1];exact afU h hw hn x.dr
 split at hd
 ·rw[hd.1];exact abb h hS hn qt x.AB
 split at hd
 ·obtain⟨kc,_,rfl,_⟩:=hd
  exact h.eq rfl rfl
 split at hd
 ·rw[hd.1];exact h.eq rfl rfl
 ·obtain⟨A',oK,kc,rfl,_,_⟩:=hd
  exact h.eq rfl rfl
variable {qt:Int}{N N':fw}{j k e:Nat}
structure Al(qt r n:Int)(j k e:Nat)(N:fw):Prop where
 i:pO qt j k N
 (f:N.c=vA r/\N.w=Rl/\N.n=n)
 si:SI N
 z:SZ e N
 w:WI N
theorem Al.t(h:Al qt r n j k e N)(hr:1<=r/\r<=3)(hn:1<=n/\n<=3):NdT N:=
 ⟨by rw[h.f.1];exact Rc.lj.2 ⟨by simp[vA],by simp[vA],by simp[vA];omega⟩,by rw[h.f.2.1];decide,by rw[h.f.2.2,h.f.1];exact⟨hn.1,by simp[vA];omega⟩⟩
theorem Al.Yf(h:Al qt r n j k e N)(hn:1<=n/\n<=3):N.l.length<=2:=aki h.si (by rw[h.f.2.2];exact hn) (by rw[h.f.1];rfl)
theorem Al.nz(h:Al qt r n j k e N)(hn:1<=n/\n<=3)(he:e<=90):NdZ N:=
 ⟨by have:=h.z.o;omega,by have:=h.z.an;omega,by have:=h.Yf hn;omega,h.z.bQ.1,by have:=h.z.dO;omega⟩
theorem Ml(h:Al qt r n j k e N)(hr:1<=r/\r<=3)(hn:1<=n/\n<=3)(hj:j<=1260)(he:e<=90)(hx:ON x)(hd:y4 qt N x N' y):Al qt r n (j+31) (k+2) (e+1) N':=by
 have hT:=h.t hr hn;have h1:=aoU h.i hT (by omega) hx hd;refine⟨?_,?_,aiY h.si hd,aiQ h.z (by rw[h.f.1];show 0<=r/\r<=3;omega) (by have:=h.Yf hn;omega) hd,aiM h.w h.si h.f.2.1 (by have:=h.z.bQ;omega) hd⟩
 ·exact h1.i
 ·rw[h1.f.c,h1.f.w,h1.f.n];exact h.f
theorem aiD(h:Al qt r n j k e N)(hr:1<=r/\r<=3)(hn:1<=n/\n<=3)(he:e<=90)(hk:x.kind=3)(hd:y4 qt N x N' y):Al qt r n j k (e+1) N'/\(N'=N\/N'=(lO N).1):=by
 have hc:N'=N\/N'=(lO N).1:=by
  unfold y4 at hd
  split at hd
  ·exact .inl hd.1
  ·simp only[hk,oN]at hd
   simp at hd;exact .inr hd.1
 refine⟨⟨?_,?_,aiY h.si hd,aiQ h.z (by rw[h.f.1];show 0<=r/\r<=3;omega) (by have:=h.Yf hn;omega) hd,aiM h.w h.si h.f.2.1 (by have:=h.z.bQ;omega) hd⟩,hc⟩
 ·rcases hc with rfl|rfl
  ·exact h.i
  ·exact(Nh h.i).i
 ·rcases hc with rfl|rfl
  ·exact h.f
  ·have:=(Nh h.i).f
   rw[this.c,this.w,this.n];exact h.f
theorem SS{ns:Nat}(h:pO qt 0 2 (N0 r n ns)):Al qt r n 0 2 0 (N0 r n ns):=
 ⟨h,⟨rfl,rfl,rfl⟩,⟨(λs hs=>by cases hs),List.Pairwise.nil⟩,⟨aW _,aW _,⟨C0 _,C0 _⟩,⟨C0 _,C0 _⟩⟩,⟨(λs hs=>by cases hs)⟩⟩
def sE(n:Int):vF:=⟨n,0,ByteArray.empty,(0,0,0),0,fP⟩
def Nk:iS:=⟨(none,0),(none,0),(none,0)⟩
theorem QC(n:Int):ON (sE n):=
 ⟨⟨⟨(by intro c hc;cases hc),⟨rV,(by intro c hc;cases hc)⟩,by show 0<=_;omega⟩,by show(0:Int)<=0/\(0:Int)<_;omega⟩,⟨by show 0<=_;omega,by show 0<=_;omega,by show 0<=_;omega,(by intro c hc;cases hc)⟩⟩
theorem B1(m:aD)(n:Int):vC m (sE n) Nk:=(QC n).at (by show 0<=_;omega) ⟨rfl,(Io.nil _).il.ia,(I0.nil _).dl.da,lu.nil _⟩
theorem G2(n:Int):∀(l dE:List Int) (x:Int),x∈dE->x∈iM n dE l
 |[],dE,x,h=>h
 |y::l,dE,x,h=>by
  unfold iM;refine G2 n l _ x ?_;split
  ·exact lJ _ h
  ·exact h
theorem P1(n:Int):∀(l dE:List Int),dE.Nodup->(iM n dE l).Nodup
 |[],dE,h=>h
 |y::l,dE,h=>by
  unfold iM;refine P1 n l _ ?_;split
  ·rename_i h1
   simp only[aB,dH,jS,gz]at h1;exact uH.2 ⟨h,by simp,λa ha b hb=>by rw[aL.1 hb];intro e;exact h1.2 (e▸ha)⟩
  ·exact h
theorem K3(n:Int):∀(l dE:List Int) (x:Int),x∈iM n dE l->x∈dE\/x∈l
 |[],dE,x,h=>.inl h
 |y::l,dE,x,h=>by
  unfold iM at h;rcases K3 n l _ x h with h|h
  ·split at h
   ·rcases aR.1 h with h|h
    ·exact .inl h
    ·exact .inr (aU.2 (.inl (aL.1 h)))
   ·exact .inl h
  ·exact .inr (bO _ h)
theorem K5(n:Int):∀(l dE:List Int),(iM n dE l).length<n->∀x∈l,x∈iM n dE l
 |[],dE,_,x,hx=>by cases hx
 |y::l,dE,h,x,hx=>by
  unfold iM at h⊢;rcases aU.1 hx with rfl|hx
  ·refine G2 n l _ _ ?_
   split
   ·exact jp _ (aL.2 rfl)
   ·rename_i h1
    simp only[aB,dH,jS,gz,bA,not_and,lM]at h1;refine h1 ?_;rw[if_neg (by simp only[aB,dH,jS,gz,bA,not_and,lM];exact h1)]at h
    have:dE.length<=(iM n dE l).length:=by
     have hs:∀(l dE:List Int),dE.length<=(iM n dE l).length:=by
      intro l
      induction l with
      |nil=>intro dE;exact aW _
      |cons z l ih=>
       intro dE;unfold iM;refine bq ?_ (ih _);split
       ·simp
       ·exact aW _
     exact hs l dE
    omega
  ·exact K5 n l _ h x hx
theorem ao1(h:∀x,x=1\/x=2\/x=3↔x∈l):(iM 3 [] l).Nodup/\∀x,x∈iM 3 [] l↔x=1\/x=2\/x=3:=by
 have hn:=P1 3 l [] List.nodup_nil;have hs:=K3 3 l []
 have key:∀x,x=1\/x=2\/x=3->x∈iM 3 [] l:=by
  by_cases hl:((iM 3 [] l).length:Int)<3
  ·exact λx hx=>K5 3 l [] hl x ((h x).1 hx)
  ·intro x hx
   refine Decidable.byContradiction λhc=>?_;have hp:=dz.1 hn
   have hm:∀(i:Nat) (hi:i<(iM 3 [] l).length),((iM 3 [] l)[i]=1\/(iM 3 [] l)[i]=2\/(iM 3 [] l)[i]=3)/\(iM 3 [] l)[i]≠x:=λi hi=>by
    have hi2:=aO hi;refine⟨?_,λe=>hc (e▸hi2)⟩;rcases hs _ hi2 with hy|hy
    ·cases hy
    ·exact(h _).2 hy
   have m0:=hm 0 (by omega);have m1:=hm 1 (by omega);have m2:=hm 2 (by omega);have p0:=hp 0 1 (by omega) (by omega) (by omega);have p1:=hp 0 2 (by omega) (by omega) (by omega);have p2:=hp 1 2 (by omega) (by omega) (by omega);omega
 refine⟨hn,λx=>⟨λhx=>?_,key x⟩⟩;rcases hs x hx with hx|hx
 ·cases hx
 ·exact(h x).2 hx
def lC:ByteArray:=⟨#[97,98,99]⟩
def aj9:List Int:=[0,1,0,0,0,0,0,0]
def VD:En:=(2,2,1,3)
def pJ:Ct:=(aj9,[VD])
def UV:vF:=⟨1,5,lC,(1,2,3),0,fP⟩
def ahe:vF:=⟨2,6,lC,(0,0,0),0,fP⟩
def UT:vF:=⟨4,0,ByteArray.empty,(0,0,0),1,fP⟩
theorem ac8:kZ (jR lC)=true:=by decide
theorem ag1:AD [VD]=[(2,1)]:=by
 simp[AD,TW,uP,kz,VD,ku,uw,S7,gL]
theorem PN:dA pJ.1 pJ.2=true:=by
 show dA aj9 [VD]=true
 unfold dA;rw[ag1];decide
theorem aq6:Jc (fx,[]) 2 (1,2,3)=(pJ,((1,2,3),(2,1),[]),0):=by
 have h1:Jy (1,2,3) []=[]:=by simp[Jy,AD,TW,uP,gL]
 have h2:nY [((2,2,1,3):En)]=[(2,2,1,3)]:=List.mergeSort_singleton _;have h3:nj (1,2,3) []=[]:=rfl;have h4:tv fx 2=(1,0):=by decide
 have h5:wR fx 2 1=aj9:=by decide
 unfold Jc;simp only[h1,h3,h4,h5];rw[if_neg (by decide),if_neg (by decide),if_neg (by simp),bV,h2];rfl
theorem UU:mG UV=true:=by decide
theorem US:mG ahe=true:=by decide
theorem HN:mG UT=true:=by decide
theorem QD:mG (sE 6)=true:=by decide
theorem QE:mG (sE 3)=true:=by decide
theorem akt:∀x:Int,x=1\/x=2\/x=3↔x∈(ja (vA 3)).map (·.2):=by
 intro x;unfold ja;simp only[aV,List.mem_mergeSort,M3,Ju,iu,dS,List.mem_range'_1,agq];have e1:(vA 3).jv.toNat=3:=rfl;have e2:(vA 3).AO.toNat=4:=rfl;rw[e1,e2]
 constructor
 ·intro h
  refine⟨_,⟨x.toNat,by omega,0,by omega,rfl⟩,?_⟩
  show((x.toNat:Nat):Int)=x
  omega
 ·rintro⟨p,⟨n,hn,i,hi,rfl⟩,rfl⟩
  show((n:Nat):Int)=1\/((n:Nat):Int)=2\/((n:Nat):Int)=3
  omega
theorem WO{part:Int}(hp:0<=part/\part<=7):(sB (vA 3) part).Nodup/\∀x,x∈sB (vA 3) part↔x=1\/x=2\/x=3:=by
 unfold sB;rw[if_neg (by omega)];refine ao1 λx=>(akt x).trans ?_;generalize (max (sH (λp=>decide (part*2305843009213693952<=p.1)) (ja (vA 3))) (0:Int)).toNat=i;simp only[aV,aR]
 constructor
 ·rintro⟨a,ha,e⟩
  rw[<-dL i (ja (vA 3))]at ha;exact⟨a,(aR.1 ha).symm,e⟩
 ·rintro⟨a,ha,e⟩
  refine⟨a,?_,e⟩;rcases ha with ha|ha
  ·exact fk ha
  ·exact bX ha
theorem Q3{part:Int}(hn:n=1\/n=2\/n=3)(hp:0<=part/\part<=7):l4 (vA 3) n part=true:=by
 unfold l4;rw[Kc];exact((WO hp).2 n).2 hn
theorem acm(hn:n=1\/n=2\/n=3):x8 (vA 3) n=[0,1,2,3,4,5,6,7]:=by
 unfold x8;rw[bY.2]
 ·rfl
 ·intro a ha
  refine Q3 hn ?_;simp[List.range,List.range.loop]at ha;omega
theorem C9{a:Int}(ha:a=1\/a=2\/a=3)(hn:n=1\/n=2\/n=3)(h:a≠n):ng (vA 3) a n=[0,1,2,3,4,5,6,7]:=by
 unfold ng;rw[if_neg h,acm ha,bY.2];intro p hp;refine Q3 hn ?_;simp at hp;omega
theorem P3:kw (vA 3) 2=[1,3]:=by
 have h1:wU (vA 3) 2 1=true:=by unfold wU;rw[C9 (by omega) (by omega) (by omega)];decide
 have h2:wU (vA 3) 2 2=false:=by unfold wU ng;rw[aC rfl];decide
 have h3:wU (vA 3) 2 3=true:=by unfold wU;rw[C9 (by omega) (by omega) (by omega)];decide
 unfold kw pX;have e1:((List.range (vA 3).jv.toNat).map λ(i:Nat)=>((i+1:Nat):Int))=[1,2,3]:=rfl;rw[e1];simp[h1,h2,h3]
theorem WP:(wW (vA 3) lC).Nodup/\∀x,x∈wW (vA 3) lC↔x=1\/x=2\/x=3:=by
 unfold wW;rw[aC ac8];have:=K7 lC;exact WO (by omega)
theorem Q4:sJ (vA 3) 2 lC=true:=by
 unfold sJ;rw[Kc];exact(WP.2 2).2 (by omega)
theorem YZ:∃a b:Int,ko (vA 3) lC 2=[a,b]/\(a=1\/a=3)/\(b=1\/b=3):=by
 obtain⟨hn,hm⟩:=WP
 have hf:∀x,x∈ko (vA 3) lC 2↔x=1\/x=3:=λx=>by
  unfold ko;rw[cH,hm];simp only[dH,gz];omega
 have hd:(ko (vA 3) lC 2).Nodup:=hn.filter _;generalize ko (vA 3) lC 2=l at hf hd
 match l,hf,hd with
 |[],hf,_=>exact absurd ((hf 1).2 (.inl rfl)) (by simp)
 |[a],hf,_=>
  have h1:=(hf 1).2 (.inl rfl);have h3:=(hf 3).2 (.inr rfl);simp at h1 h3;omega
 |[a,b],hf,_=>exact⟨a,b,rfl,(hf a).1 (by simp),(hf b).1 (by simp)⟩
 |a::b::c::r,hf,hd=>
  have ha:=(hf a).1 (by simp);have hb:=(hf b).1 (by simp);have hc:=(hf c).1 (by simp);simp only[nU,aU,not_or]at hd;omega
theorem zm{t:Int}(ht:t=1\/t=3):dR (iL 2 t (lC,pJ))=true:=by
 have hl:cX [((lC,pJ):Kd)]=true:=vV.2 ⟨λx hx=>by rw[aL.1 hx];exact⟨by decide,PN⟩,Fu _ _,by simp⟩;unfold dR Vo iL;simp only[hl];rcases ht with rfl|rfl<;>decide
structure O0(N:fw)(su o:Nat)(an:List Rv)(l:List kl)(bQ dO:Int):Prop where
 (c:N.c=vA 3)
 (w:N.w=Rl)
 (n:N.n=2)
 (L:N.s.L=[(lC,pJ)])
 (R:N.s.R.length=1)
 (su:N.s.cY=su)
 (o:N.B.dE.length=o/\∀r∈N.B.dE,r.2=1)
 (an:N.B.o7=an.map λx=>(x,1))
 (l:N.l=l)
 (bQ:N.bQ=bQ)
 (dO:N.dO=dO)
variable {N N':fw}{y:XL}{ns su o:Nat}{an:List Rv}{l:List kl}{bQ dO:Int}
theorem MM{x:gX}(hR:N.s.R.length=1)(ho:N.B.dE.length=o/\∀r∈N.B.dE,r.2=1)(hx:dR x=true):(N.send x).B.dE.length=o+1/\∀r∈(N.send x).B.dE,r.2=1:=by
 show(N.B.send x _).dE.length=_/\_
 have e:(N.send x).B.dE=N.B.dE++[(x,((N.s.R.length:Nat):Int))]:=by
  show(N.B.send x _).dE=_
  unfold kf.send;rw[aC hx]
 have e2:(N.B.send x ((N.s.R.length:Nat):Int)).dE=N.B.dE++[(x,((N.s.R.length:Nat):Int))]:=e;rw[e2,ax,eV,ho.1];refine⟨rfl,λr hr=>?_⟩;rw[e]at hr;rcases aR.1 hr with hr|hr
 ·exact ho.2 r hr
 ·rw[aL.1 hr,hR];rfl
theorem ae3(hd:y4 0 (N0 3 2 ns) UV N' y):y.err=0/\y.ev.2.1.2=1/\O0 N' 0 2 [⟨5,0,[]⟩] [] 0 0:=by
 unfold y4 at hd;rw[if_neg (by rw[UU];simp),aC (show UV.kind=1 from rfl)]at hd;have hL:(N0 3 2 ns).s.L=[]:=rfl;have hg:gh (N0 3 2 ns).s.L lC=(fx,[]):=rfl
 have hp:rq 0 (N0 3 2 ns).A (N0 3 2 ns).s (lC,pJ)=0:=by
  have h1:sW (N0 3 2 ns).s lC pJ=0:=by
   unfold sW;rw[if_neg (by rw[ac8];simp),if_neg (by rw[PN];simp),if_neg (show ¬ 0<(N0 3 2 ns).s.st from Nat.lt_irrefl 0)]
  unfold rq;rw[if_neg (by simp only[h1];simp),if_neg];rintro⟨h,_⟩;exact absurd h (by decide)
 obtain⟨a,b,ho,ha,hb⟩:=YZ;unfold lW at hd;have e1:(N0 3 2 ns).c=vA 3:=rfl;have e2:(N0 3 2 ns).n=2:=rfl;have e3:UV.key=lC:=rfl;have e4:UV.op=(1,2,3):=rfl;have e5:UV.id=5:=rfl;simp only[e1,e2,e3,e4,e5,hg,aq6,Q4,hp,ho]at hd;rw[if_neg (by simp),if_neg (by simp),if_neg (by simp)]at hd;obtain⟨h1,h2⟩:=Prod.mk.inj hd;refine⟨by rw[h2],by rw[h2],?_⟩;have s1:=MM (N:=((N0 3 2 ns).put (lC,pJ)).nX ⟨5,0,[]⟩) (o:=0) (x:=iL 2 a (lC,pJ)) rfl ⟨rfl,λr hr=>by cases hr⟩ (zm ha);have s2:=MM (N:=(((N0 3 2 ns).put (lC,pJ)).nX ⟨5,0,[]⟩).send (iL 2 a (lC,pJ))) (x:=iL 2 b (lC,pJ)) rfl s1 (zm hb)
 have e6:N'=((((N0 3 2 ns).put (lC,pJ)).nX ⟨5,0,[]⟩).send (iL 2 a (lC,pJ))).send (iL 2 b (lC,pJ)):=by
  rw[h1]
  show fw.push (fw.push _ a _) b _=_
  unfold fw.push;have ea:dR (iL (((N0 3 2 ns).put (lC,pJ)).nX ⟨5,0,[]⟩).n a (lC,pJ))=true:=zm ha;rw[aC ea];have eb:dR (iL ((((N0 3 2 ns).put (lC,pJ)).nX ⟨5,0,[]⟩).send (iL (((N0 3 2 ns).put (lC,pJ)).nX ⟨5,0,[]⟩).n a (lC,pJ))).n b (lC,pJ))=true:=zm hb;rw[aC eb];rfl
 have hs:N'.s=(N0 3 2 ns).s.put (lC,pJ):=by rw[e6];rfl
 have ean:(kf.send (kf.send (kf.nX ⟨[],[]⟩ ⟨5,0,[]⟩ 1) (iL 2 a (lC,pJ)) 1) (iL 2 b (lC,pJ)) 1).o7=[(⟨5,0,[]⟩,1)]:=by
  unfold kf.send;rw[aC (zm ha),aC (zm hb)];rfl
 refine⟨by rw[e6];rfl,by rw[e6];rfl,by rw[e6];rfl,?_,by rw[hs];rfl,by rw[hs];rfl,by rw[e6];exact s2,?_,by rw[e6];rfl,by rw[e6];rfl,by rw[e6];rfl⟩
 ·rw[hs,jf.ai3]
  rfl
 ·rw[e6]
  exact ean
theorem aiz(h:O0 N 0 o an l bQ dO):N.Nb=[]/\O0 N.AA 0 o an l bQ dO:=by
 have hm:∀r∈N.B.dE,kh ((N.s.cY:Nat):Int) r.2=false:=λr hr=>by rw[h.o.2 r hr,h.su];decide
 have e1:N.Nb=[]:=by
  show(N.B.dE.filter _).map _=[]
  rw[gP.2 λr hr=>by rw[hm r hr];simp];rfl
 have e2:N.AA.B.dE=N.B.dE:=bY.2 λr hr=>by rw[hm r hr];rfl
 exact⟨e1,h.c,h.w,h.n,h.L,h.R,h.su,by rw[e2];exact h.o,h.an,h.l,h.bQ,h.dO⟩
theorem ae2(h:O0 N 0 o an l bQ dO):N.BI=[]/\O0 N.uo 0 o an l bQ dO:=by
 have hm:∀r∈N.B.o7,kh ((N.s.cY:Nat):Int) r.2=false:=λr hr=>by
  rw[h.an]at hr;obtain⟨x,_,rfl⟩:=aV.1 hr;rw[h.su];rfl
 have e1:N.BI=[]:=by
  show(N.B.o7.filter _).map _=[]
  rw[gP.2 λr hr=>by rw[hm r hr];simp];rfl
 have e2:N.uo.B.o7=N.B.o7:=bY.2 λr hr=>by rw[hm r hr];rfl
 exact⟨e1,h.c,h.w,h.n,h.L,h.R,h.su,h.o,by rw[e2];exact h.an,h.l,h.bQ,h.dO⟩
theorem aiy(h:O0 N 1 o an l bQ dO):N.Nb.length=o/\O0 N.AA 1 0 an l bQ dO:=by
 have hm:∀r∈N.B.dE,kh ((N.s.cY:Nat):Int) r.2=true:=λr hr=>by rw[h.o.2 r hr,h.su];decide
 have e1:N.Nb.length=o:=by
  show((N.B.dE.filter _).map _).length=o
  rw[aH,bY.2 hm];exact h.o.1
 have e2:N.AA.B.dE=[]:=gP.2 λr hr=>by rw[hm r hr];simp
 exact⟨e1,h.c,h.w,h.n,h.L,h.R,h.su,by rw[e2];exact⟨rfl,λr hr=>by cases hr⟩,h.an,h.l,h.bQ,h.dO⟩
theorem ae1(h:O0 N 1 o an l bQ dO):N.BI=an/\O0 N.uo 1 o [] l bQ dO:=by
 have hm:∀r∈N.B.o7,kh ((N.s.cY:Nat):Int) r.2=true:=λr hr=>by
  rw[h.an]at hr;obtain⟨x,_,rfl⟩:=aV.1 hr;rw[h.su];rfl
 have e1:N.BI=an:=by
  show(N.B.o7.filter _).map _=an
  rw[bY.2 hm,h.an,fS];exact lL an
 have e2:N.uo.B.o7=[]:=gP.2 λr hr=>by rw[hm r hr];simp
 exact⟨e1,h.c,h.w,h.n,h.L,h.R,h.su,h.o,by rw[e2];rfl,h.l,h.bQ,h.dO⟩
theorem aiw(h:O0 N 0 o an l bQ dO)(hd:y4 0 N (sE 6) N' y):y.err=0/\O0 N' 1 o an l bQ dO:=by
 unfold y4 at hd;rw[if_neg (by rw[QD];simp)]at hd;simp[sE]at hd;obtain⟨kc,_,h1,h2⟩:=hd;rw[h1,h2];exact⟨rfl,h.c,h.w,h.n,h.L,h.R,h.R,h.o,h.an,h.l,h.bQ,h.dO⟩
def GA:kl:=vT ⟨1,2,3,0,1,[],Rl,0⟩ 1 [] 0
theorem aiA(h:O0 N 1 0 [] [] 0 0)(hd:y4 0 N UT N' y):y.err=0/\∃o',O0 N' 1 o' [] [GA] 0 1:=by
 unfold y4 at hd;rw[if_neg (by rw[HN];simp)]at hd;simp[UT]at hd;have hp:lV (kw N.c N.n) 1=(3,0):=by rw[h.c,h.n,P3];decide
 have hb:qs N 1=(GA,0):=by
  unfold qs;rw[hp,h.c,h.n,h.w,h.bQ,h.dO,C9 (by omega) (by omega) (by omega)];rfl
 have e:oC N 1=((N.add GA).CR GA,0):=by
  unfold oC;rw[hp,if_neg (by simp),if_neg (by rw[h.l];simp),hb,if_neg (by simp)]
 rw[e]at hd;obtain⟨h1,h2⟩:=hd;refine⟨by rw[h2],?_⟩;rw[h1];have h0:O0 (N.add GA) 1 0 [] [GA] 0 1:=⟨h.c,h.w,h.n,h.L,h.R,h.su,h.o,h.an,by show N.l++[GA]=_;rw[h.l];rfl,h.bQ,by show N.dO+1=1;rw[h.dO];rfl⟩;unfold fw.CR;split
 ·by_cases hr:dR (Aa GA (N.add GA).s.L)=true
  ·refine⟨_,h0.c,h0.w,h0.n,h0.L,h0.R,h0.su,MM h0.R h0.o hr,?_,h0.l,h0.bQ,h0.dO⟩
   rw[xR];exact h0.an
  ·refine⟨0,h0.c,h0.w,h0.n,h0.L,h0.R,h0.su,?_,?_,h0.l,h0.bQ,h0.dO⟩
   ·show(kf.send _ _ _).dE.length=0/\∀r∈(kf.send _ _ _).dE,_
    unfold kf.send;rw[if_neg hr];exact h0.o
   ·rw[xR];exact h0.an
 ·exact⟨0,h0⟩
theorem ae0(h:O0 N 1 o an [GA] 0 1)(hd:y4 0 N UT N' y):y.err=10/\N'=N:=by
 unfold y4 at hd;rw[if_neg (by rw[HN];simp)]at hd;simp[UT]at hd;have hp:lV (kw N.c N.n) 1=(3,0):=by rw[h.c,h.n,P3];decide
 have e:oC N 1=(N,10):=by
  unfold oC;rw[hp,if_neg (by simp),aC (by rw[h.l];decide)]
 rw[e]at hd;exact⟨by rw[hd.2],hd.1⟩
theorem abh:um [VD]=[(2,3)]:=by
 unfold um;rw[show nY [VD]=[VD] from List.mergeSort_singleton _];decide
theorem aix(h:O0 N su o an l bQ dO)(hd:y4 0 N ahe N' y):y.ln=[(2,3)]/\∃an',O0 N' su o an' l bQ dO:=by
 unfold y4 at hd;rw[if_neg (by rw[US];simp)]at hd;simp[ahe]at hd;unfold qj at hd;have hg:gh N.s.L lC=pJ:=by rw[h.L];decide
 rw[h.c,h.n]at hd;simp only[Q4,hg]at hd;rw[if_neg (by simp)]at hd;obtain⟨h1,h2⟩:=Prod.mk.inj hd;refine⟨by rw[h2];exact abh,an++[⟨6,0,As (um pJ.2)⟩],?_⟩;rw[h1];refine⟨h.c,h.w,h.n,h.L,h.R,h.su,h.o,?_,h.l,h.bQ,h.dO⟩
 show N.B.o7++[(_,((N.s.R.length:Nat):Int))]=_
 rw[h.an,h.R,bD];rfl
theorem aiv(h:O0 N su o an [GA] 0 dO)(hd:y4 0 N (sE 3) N' y):y.err=0/\N'.bQ=1/\N'.l.length=1/\N'.n=2:=by
 unfold y4 at hd;rw[if_neg (by rw[QE];simp)]at hd;simp[sE]at hd;obtain⟨h1,h2⟩:=hd;have hb:=vM (N.bQ+1) N.l (N.at (N.bQ+1),[]);have h3:=FC (N.bQ+1) N.l (N.at (N.bQ+1),[]);have e:=hb.e
 have eT:lO N=({(N.l.foldl (Au (N.bQ+1)) (N.at (N.bQ+1),[])).1 with l:=(N.l.foldl (Au (N.bQ+1)) (N.at (N.bQ+1),[])).2},0):=by
  unfold lO;rw[if_neg (by rw[h.bQ];decide)]
 rw[eT]at h1 h2;have ec:((N.l.map λs=>(kX s (N.bQ+1)).1).filter λt=>decide (0<t.round)).length=1:=by rw[h.l,h.bQ];rfl
 generalize N.l.foldl (Au (N.bQ+1)) (N.at (N.bQ+1),[])=Z at*;refine⟨by rw[h2],?_,?_,?_⟩
 ·rw[h1];show Z.1.bQ=1;rw[e];show N.bQ+1=1;rw[h.bQ];rfl
 ·rw[h1];show Z.2.length=1;rw[h3];simpa using ec
 ·rw[h1];show Z.1.n=2;rw[e];exact h.n
variable {qt:Int}{N N':fw}{j k e:Nat}
theorem Li{f:CV}(h1:c.ok=true)(h2:w.ok=true)(h3:c.jv<n):
  eN tP 25 [.a (Sq c w),i64 n,f] m [.v (.pointer none),i64 11]:=by
 refine bW (c:=c25) Tryz.func25 rfl (ce ?_)
 first|refine fU (qk) ?_ |refine bt (qk) ?_
 conv=>whnf
 rw[h1,h2];refine xN ?_;apply bI<;>intro h
 ·exact rR
 apply bI<;>intro h
 ·exact rR
 ·exfalso
  have:=aj h;omega
theorem SO(h:Al qt r n j k e N):Al qt r n j k e N.AA:=by
 have hl:N.AA.B.dE.length<=N.B.dE.length:=bC _ _;have hb:y7 N N.AA 0:=⟨rfl,by omega⟩;exact⟨h.i.box hb,h.f,h.si.box hb,⟨bq hl h.z.o,h.z.an,h.z.bQ,h.z.dO⟩,h.w.box hb⟩
theorem Mk(h:Al qt r n j k e N):Al qt r n j k e N.uo:=by
 have hl:N.uo.B.o7.length<=N.B.o7.length:=bC _ _;have hb:y7 N N.uo 0:=⟨rfl,by show N.B.dE.length<=_;omega⟩;exact⟨h.i.box hb,h.f,h.si.box hb,⟨h.z.o,bq hl h.z.an,h.z.bQ,h.z.dO⟩,h.w.box hb⟩
theorem zt(hm:x.AB=fP)(hd:0<=x.dr/\x.dr<18446744073709551616):ON x:=by
 have h:=QC 3;exact⟨⟨by rw[hm];exact h.r.m,hd⟩,by rw[hm];exact h.s⟩
theorem FM(hm:x.AB=fP)(hd:0<=x.dr/\x.dr<18446744073709551616)(hk:x.key.size<=100):vC m x Nk:=
 (zt hm hd).at hk (by rw[hm];exact(B1 m 3).je)
theorem agX{α β:Type}{f:α->β}:∀{l:List α}{b:β},l.map f=[b]->∃r,l=[r]/\f r=b
 |[r],_,h=>⟨r,rfl,(List.cons.inj h).1⟩
 |[],_,h=>by cases h
 |_::_::_,_,h=>by cases(List.cons.inj h).2
theorem rG(hg:jZ m):bi tP 8 [] m λr m'=>r=[bR true]/\cL m m':=by
 have wo:(1:Int)<=3/\(3:Int)<=3:=by omega
 have JN:(1:Int)<=2/\(2:Int)<=3:=by omega
 refine bW (c:=du) Tryz.func8 rfl (ce ?_);refine aP (Qk (q:=0) (by omega)) ?_;rintro _ m1⟨bf,pf,rfl,bM,hf⟩
 first|refine fU (yQ) ?_ |refine bt (yQ) ?_
 refine aP (Ql (n:=2) (r:=3) hg bM hf (by omega) (by omega) (by omega)) ?_;rintro _ m2⟨X,kc,p',q',rfl,hb,bZ,rO,kV,hI2⟩;obtain⟨lv,pr,ps,pf',pb,pl,R,hO⟩:=kV.op bZ;refine xN ?_;refine xN ?_;refine xN ?_
 first|refine fU (yg hO.o) ?_ |refine bt (yg hO.o) ?_
 refine xN ?_;have hA0:=SS hI2;refine aP (qm (x:=UV) (s:=Nk) (hg.sub rO) bZ kV (hA0.t wo JN) hA0.i (by omega) (by omega) (FM rfl (by decide) (by decide)) (by decide) (hA0.nz JN (by omega)) (by decide)) ?_;rintro _ m3⟨N1,y1,LW,qn⟩;obtain⟨p3,q3,ea1,ec1,la1,lc1,rfl,dy,EK,LQ,_⟩:=qn.ex;have Tg:=Ml hA0 wo JN (by omega) (by omega) (zt rfl (by decide)) LW;obtain⟨e1,e1',av1⟩:=ae3 LW;refine aP (Lh dy LQ (by have:=Tg.z.o;omega)) ?_;rintro _ m4⟨v4,p4,q4,R4,rfl,eP,Zx,hn4,hR4,hm4,_⟩;obtain⟨f4,av4⟩:=aiz av1;have hA4:=SO Tg;generalize N1.AA=N4 at*;refine aP (Hb eP hn4 (by have:=hA4.z.an;omega)) ?_;rintro _ m5⟨v5,p5,q5,R5,rfl,eD,NM,w6,hR5,hm5,_⟩;obtain⟨f5,av5⟩:=ae2 av4;have hA5:=Mk hA4;generalize N4.uo=N5 at*;have hg5:jZ q5:=((((hg.sub rO).sub EK).sub Zx).sub NM);refine aP (qm (x:=sE 6) (s:=Nk) hg5 eD w6 (hA5.t wo JN) hA5.i (by omega) (by omega) (B1 _ _) (by decide) (hA5.nz JN (by omega)) (by decide)) ?_;rintro _ m6⟨N6,y6,hd6,hr6⟩;obtain⟨p6,q6,ea6,ec6,la6,lc6,rfl,gC,Zw,I9,_⟩:=hr6.ex;have hA6:=Ml hA5 wo JN (by omega) (by omega) (zt rfl (by decide)) hd6;obtain⟨e6,av6⟩:=aiw av5 hd6;refine aP (Lh gC I9 (by have:=hA6.z.o;omega)) ?_;rintro _ m7⟨v7,p7,q7,R7,rfl,iU,hq7,hn7,hR7,hm7,_⟩;obtain⟨f7,av7⟩:=aiy av6;have hA7:=SO hA6;generalize N6.AA=N7 at*;refine aP (Hb iU hn7 (by have:=hA7.z.an;omega)) ?_;rintro _ m8⟨v8,p8,q8,R8,rfl,k8,Zv,JO,hR8,hm8,_⟩;obtain⟨f8,av8⟩:=ae1 av7;have hA8:=Mk hA7;generalize N7.uo=N8 at*;have hg8:jZ q8:=(((hg5.sub Zw).sub hq7).sub Zv);refine aP (qm (x:=UT) (s:=Nk) hg8 k8 JO (hA8.t wo JN) hA8.i (by omega) (by omega) (FM rfl (by decide) (by decide)) (by decide) (hA8.nz JN (by omega)) (by decide)) ?_;rintro _ m9⟨N9,y9,hd9,hr9⟩;obtain⟨p9,q9,ea9,ec9,la9,lc9,rfl,zv,hq9,tj,_⟩:=hr9.ex;have hA9:=Ml hA8 wo JN (by omega) (by omega) (zt rfl (by decide)) hd9;obtain⟨e9,o9,av9⟩:=aiA av8 hd9;have hg9:=hg8.sub hq9;refine aP (qm (x:=UT) (s:=Nk) hg9 zv tj (hA9.t wo JN) hA9.i (by omega) (by omega) (FM rfl (by decide) (by decide)) (by decide) (hA9.nz JN (by omega)) (by decide)) ?_;rintro _ m10⟨N10,y10,aqm,at5⟩
 obtain⟨p10,q10,aCl,aCh,azY,azU,rfl,nr,UY,NS,_⟩:=at5.ex;have ah1:=Ml hA9 wo JN (by omega) (by omega) (zt rfl (by decide)) aqm;obtain⟨e10,adw⟩:=ae0 av9 aqm;subst adw;have ap6:=hg9.sub UY;refine aP (qm (x:=ahe) (s:=Nk) ap6 nr NS (ah1.t wo JN) ah1.i (by omega) (by omega) (FM rfl (by decide) (by decide)) (by decide) (ah1.nz JN (by omega)) (by decide)) ?_;rintro _ m11⟨N11,y11,aql,at4⟩;obtain⟨p11,q11,aCk,aCg,azX,azT,rfl,u7,ald,alh,ap3⟩:=at4.ex;have alZ:=Ml ah1 wo JN (by omega) (by omega) (zt rfl (by decide)) aql;obtain⟨e11,aC3,awW⟩:=aix av9 aql;have auT:=ap6.sub ald;refine aP (qm (x:=sE 3) (s:=Nk) auT u7 alh (alZ.t wo JN) alZ.i (by omega) (by omega) (B1 _ _) (by decide) (alZ.nz JN (by omega)) (by decide)) ?_;rintro _ m12⟨N12,y12,au0,at3⟩;obtain⟨p12,q12,aCj,aCf,azW,azS,rfl,JJ,apF,adG,_⟩:=at3.ex;obtain⟨e12,avO,aq4,avN⟩:=aiv awW au0
 first|refine fU (Li (c:=vA 3) (w:=Rl) (n:=4) (by decide) (by decide) (by decide)) ?_ |refine bt (Li (c:=vA 3) (w:=Rl) (n:=4) (by decide) (by decide) (by decide)) ?_
 have avn:R4=[]:=zW.1 (hm4.trans f4);have avm:R5=[]:=zW.1 (hm5.trans f5);have avl:R7.length=2:=by rw[<-f7,<-hm7,aH]
 obtain⟨r8,avk,hr8⟩:=agX (hm8.trans f8);subst avn avm avk;obtain⟨aCa,aB6,azP⟩:=y11;simp only at e11;subst e11;obtain⟨⟨i8,r8e,l8⟩,s8⟩:=r8;simp only at hr8;cases hr8;obtain⟨a4,c4,rfl⟩:=hR4.shape;obtain⟨a5,c5,rfl⟩:=hR5.shape;obtain⟨a7,c7,rfl⟩:=hR7.shape;obtain⟨b8,o8,c8,rfl,hc8⟩:=hR8.real (i:=0) (by simp);obtain⟨b11,o11,c11,auO,alD⟩:=ap3.real (i:=0) (by simp);injection auO with eK _ fN;subst eK fN;have hc8:=hc8 0 (by simp);have alD:=alD 0 (by simp);have ahB:cL q11 m12:=apF.trans (JJ.sub);rw[avl];obtain⟨er1,⟨aB4,⟨aB3,aB1⟩,aB2⟩,ln1⟩:=y1;obtain⟨er6,ev6,ln6⟩:=y6;obtain⟨er9,ev9,ln9⟩:=y9;obtain⟨aCb,aB7,azQ⟩:=y10;obtain⟨aB9,aB5,azO⟩:=y12;simp only at e1 e1' e6 e9 e10 e12;subst e1 e1' e6 e9 e10 e12;refine xN ?_;refine xN ?_;refine xY ?_;refine xY ?_;refine xY ?_;refine xY ?_;refine xY ?_;refine⟨⟨by omega,by simp⟩,?_⟩;refine⟨_,fZ (j:=0) (hc8.sub (((hq9.trans UY).trans ald).trans ahB)) rfl,rfl,?_⟩;refine xY ?_;refine xY ?_;refine xY ?_;refine⟨⟨by omega,by simp⟩,?_⟩;refine⟨_,fZ (j:=1) (alD.sub ahB) rfl,rfl,?_⟩;refine xY ?_;refine xY ?_;obtain⟨lv,pr,ps,pf',pb,pl,R,hO⟩:=adG.op JJ
 first|refine fU (Lj hO.o) ?_ |refine bt (Lj hO.o) ?_
 conv=>whnf
 rw[avO];refine xY ?_;refine aP (A5 JJ adG (by rw[aq4];decide)) ?_;rintro _ m13⟨v13,q13,R13,rfl,NL,at7,Q7,atK,auz⟩;have avo:R13.length=1:=by rw[<-aq4,<-auz,aH]
 obtain⟨a13,c13,rfl⟩:=atK.shape;rw[avo];refine xY ?_;refine xY ?_;obtain⟨lv2,pr2,ps2,Va,pb2,pl2,R2,hO2⟩:=Q7.op NL
 first|refine fU (BW hO2.o) ?_ |refine bt (BW hO2.o) ?_
 conv=>whnf
 rw[avN];refine xY ?_
 first|refine fU (qk (c:=vA 3) (w:=Rl)) ?_ |refine bt (qk (c:=vA 3) (w:=Rl)) ?_
 refine⟨rfl,?_⟩;exact rO.trans (EK.trans (Zx.trans (NM.trans (Zw.trans (hq7.trans (Zv.trans (hq9.trans (UY.trans (ald.trans (apF.trans (at7.trans (NL.sub))))))))))))
theorem PM:mG (sE 3)=true:=by
 simp[mG,S5,sE,PH,Uh,rB,GF,fP]
variable {mm m p q:aD}{X:Jg}{N:fw}{j k e:Nat}{n:Int}
theorem X0(h:V4 bQ s):0<=mW bQ s:=by
 have:=h.t;unfold mW;omega
theorem Yl(hA:Al 0 2 n j k e N)(hn:1<=n/\n<=3)(he:e<=90){N':fw}(hl:∀s∈N.l,mW N.bQ s<=19-(i:Int))(hd:y4 0 N (sE 3) N' y):Al 0 2 n j k (e+1) N'/\∀s∈N'.l,mW N'.bQ s<=19-((i+1:Nat):Int)/\0<=19-(i:Int):=by
 obtain⟨h1,_⟩:=aiD hA (by omega) hn he rfl hd
 have e1:N'=(lO N).1:=by
  unfold y4 at hd;rw[if_neg (by rw[PM];simp)]at hd;simp[sE]at hd;exact hd.1
 have hw:=(Wg hA.w hA.si (by have:=hA.z.bQ;omega)).2 _ hl;refine⟨h1,λs hs=>?_⟩;rw[e1]at hs⊢;have:=hw s hs;omega
theorem M7(hg:jZ m)(hmq:cL m q)(hs:aq mm [p,q])(hN:y0 p q X 0 N)(hA:Al 0 2 n j k e N)(hj:j<=1250)(hk:k<=100)(he:e<=40)(hn:1<=n/\n<=3):
  Tl c4 (AU 19 (yX Tryz.f4)) (Mm tt.get Tryz.f4.results.toList λr m'=>r=[bR true]/\cL m m')
   [(5,.c (cx X.a))] [] mm []:=by
 refine .at ?_;refine .mk (ι:=Nat) (λi=>40-i) (λi m'=>i<=40/\∃p' q' N',aq m' [p',q']/\cL q q'/\y0 p' q' X 0 N'/\Al 0 2 n j k (e+i) N'/\∀s∈N'.l,mW N'.bQ s<=19-(i:Int)) (λi=>[(5,.c (cx X.a)),(10,.c (i64 i))]) (λ_=>[]) 0 ⟨by omega,p,q,N,hs,cL.refl _,hN,hA,λs hs=>by have:=aa7 (hA.w.w s hs);omega⟩ ?_ ?_
 ·exact Cr
 rintro i m1⟨hi,p1,q1,N1,bM,mQ,hN1,Tg,wz⟩;apply bI<;>intro h
 ·have bH:i<40:=by have:=ah h;omega
  refine aP (qm (x:=sE 3) (s:=Nk) (hg.sub (hmq.trans mQ)) bM hN1 (Tg.t (by omega) hn) Tg.i (by omega) (by omega) (B1 _ _) (by decide) (Tg.nz hn (by omega)) (by decide)) ?_;rintro _ m2⟨N2,y2,hd2,jK⟩;obtain⟨p2,q2,ea,ec,la,lc,rfl,bZ,rO,hN2,_⟩:=jK.ex;obtain⟨Rr,Td⟩:=Yl Tg hn (by omega) wz hd2;refine⟨i+1,⟨by omega,p2,q2,N2,bZ,mQ.trans rO,hN2,Rr,λs hs=>(Td s hs).1⟩,by omega,?_⟩;exact Cr
 ·have h40:i=40:=by have:=aj h;omega
  subst h40
  have h0:N1.l=[]:=by
   cases hl:N1.l with
   |nil=>rfl
   |cons s r=>
    exfalso;have h1:=wz s (by rw[hl];simp);have h2:=(X0 (Tg.w.w s (by rw[hl];simp)));omega
  refine aP (rG (hg.sub ((hmq.trans mQ).trans (bM.sub (a:=q1))))) ?_;rintro _ m3⟨rfl,dy⟩;refine xY ?_;refine aP (A5 (bM.grow dy) hN1 (by rw[h0];simp)) ?_;rintro _ m4⟨v,q4,R4,rfl,eP,Zx,hN4,QZ,he4⟩;have hR:R4=[]:=by rw[h0]at he4;simpa using he4
  subst hR;obtain⟨a,c,rfl⟩:=QZ.shape;exact⟨rfl,((hmq.trans mQ).trans Zx).trans (eP.sub)⟩
variable {m:aD}{n:Int}
theorem aro{qt:Int}{N:fw}{j k e j' k' e':Nat}(h:Al qt r n j k e N)(hj:j<=j')(hk:k<=k')(he:e<=e'):Al qt r n j' k' e' N:=
 ⟨h.i.up hj hk,h.f,h.si,⟨by have:=h.z.o;omega,by have:=h.z.an;omega,by have:=h.z.bQ;omega,by have:=h.z.dO;omega⟩,h.w⟩
theorem agF(hv:V9 m v O)(hi:i<O.length):∃b o c,v= .slice (some ⟨b,o,none⟩) O.length c/\gR m b (o+i*49)=some (.int .i64 O[i].kind)/\dQ m b (o+i*49+1) (LB.cz (O[i].x.L O[i].s)):=by
 obtain⟨b,o,c,e,hg⟩:=hv.el i hi;refine⟨b,o,c,e,fZ (j:=0) (hg i hi) rfl,?_⟩;obtain⟨arr,t,fr,g1,g2⟩:=hg i hi;refine⟨arr,t,fr,g1,λjj u hu=>?_⟩
 have:=g2 (1+jj) u (by
  show(Value.int .i64 O[i].kind::LB.cz (O[i].x.L O[i].s++[.one O[i].dO]))[1+jj]?=some u
  rw[uG 1 jj,Fv,LB.jW,aT (aQ.1 hu).1]
  exact hu)
 rw[show o+i*49+1+jj=o+i*49+(1+jj) by omega];exact this
theorem Du(hg:jZ m)(hv:V9 m v O)(hO:O.length<=9223372036854775807)(hn: -9223372036854775808<=n/\n<=9223372036854775807):
  bi tP 4 [i64 n,.v v] m λr m'=>r=[bR true]/\cL m m':=by
 obtain⟨av,cv,rfl⟩:=hv.sh;refine bW (c:=c4) Tryz.func4 rfl (ce ?_);refine aP (NY hv hO) ?_;rintro _ m⟨g,rfl,hm,Xe⟩;subst hm;apply bI<;>intro h
 ·refine aP (rG hg) ?_
  rintro _ m1⟨rfl,bM⟩;exact⟨rfl,bM⟩
 apply bI<;>intro h1
 ·refine aP (rG hg) ?_
  rintro _ m1⟨rfl,bM⟩;exact⟨rfl,bM⟩
 apply bI<;>intro h3
 ·refine aP (rG hg) ?_
  rintro _ m1⟨rfl,bM⟩;exact⟨rfl,bM⟩
 have Q7:1<=n/\n<=3:=by
  have:=aj h1;have:=aj h3;omega
 have B8:=Xe h;refine aP (OF (qt:=0) hg (by omega) Q7) ?_;rintro _ m1⟨X,kc,p1,q1,rfl,bM,mQ,hN1,hI1⟩;refine xN ?_;have Tg:=SS hI1;have aBA:=B8.1;refine .mk (ι:=Nat) (λi=>40-i) (λi m'=>i<=O.length/\∃p' q' N',aq m' [p',q']/\cL m q'/\y0 p' q' X 0 N'/\Al 0 2 n (31*i) (2+2*i) i N') (λi=>[(0,.c (i64 n)),(1,.c (.v (.slice av O.length cv))),(5,.c (cx X.a)),(7,.c (i64 i))]) (λ_=>[]) 0 ⟨by omega,p1,q1,_,bM,mQ,hN1,Tg⟩ ?_ ?_
 ·exact Cr
 rintro i m2⟨hi,p2,q2,N2,bZ,rO,hN2,Rr⟩;have wq:=rO.trans (bZ.sub (a:=q2));apply bI<;>intro h;rotate_left
 ·have tl:=M7 hg rO bZ hN2 Rr (by omega) (by omega) (by omega) Q7
  conv at tl=>whnf
  refine .via _ _ ?_ tl;exact Cr
 have bH:i<O.length:=by have:=ah h;omega
 obtain⟨b5,o5,c5,e5,hk5,hx5⟩:=agF (hv.sub wq) bH;injection e5 with e51 _ e53;subst e51 e53;have ez:=hv.ok O[i] (aO bH);have aho:=B8.2 O[i] (aO bH);generalize O[i]=op at*
 repeat refine xS ?_
 refine xL (hk5) ?_;refine⟨λh=>?a1,λh=>?a2⟩
 case' a1=>
  repeat refine xS ?_
  refine⟨op.x.L op.s,WW ez.a.Th,rfl,by simp only[bK,aA];exact hx5,?_⟩;refine aP (qm (x:=op.x) (s:=op.s) (hg.sub rO) bZ hN2 (Rr.t (by omega) Q7) Rr.i (by omega) (by omega) (ON.at ⟨ez.r,aho.2⟩ aho.1 (ez.a.sub rO)) aho.2.c.1 (Rr.nz Q7 (by omega)) ez.r.d) ?_;rintro _ m2⟨N2,y,hd,hr⟩;obtain⟨p2,q2,_,_,_,_,rfl,bZ,EK,hN2,_⟩:=hr.ex;have Rr:=Ml Rr (by omega) Q7 (by omega) (by omega) ⟨ez.r,aho.2⟩ hd;have rO:=rO.trans EK
 case' a2=>
  have Rr:=aro Rr (j':=31*i+31) (k':=2+2*i+2) (e':=i+1) (by omega) (by omega) (by omega)
 all_goals
  have wq:=rO.trans (bZ.sub (a:=q2));have Td:=Rr.Yf Q7;refine aP (A5 bZ hN2 (by omega)) ?_;rintro _ m3⟨v3,q3,R3,rfl,dy,EK,hN3,tX,hm3⟩;have hRl:R3.length=N2.l.length:=by rw[<-hm3,aH]
  obtain⟨a3,c3,rfl⟩:=tX.shape;apply bI<;>intro h
  ·exfalso
   have:=ah h;omega
  refine .mk (ι:=Nat) (λk=>R3.length-k) (λk mm=>k<=R3.length/\mm=m3) (λk=>[(0,.c (i64 n)),(1,.c (.v (.slice (some ⟨b5,o5,none⟩) O.length cv))),(5,.c (cx X.a)),(7,.c (i64 i)),(8,.c (.v (.slice a3 R3.length c3))),(9,.c (i64 k))]) (λ_=>[]) 0 ⟨by omega,rfl⟩ ?_ ?_
  ·exact Cr
  rintro k mm⟨hk,he⟩;subst mm;apply bI<;>intro h;rotate_left
  ·refine⟨i+1,⟨by omega,p2,q3,N2,dy,rO.trans EK,hN3,Rr⟩,by omega,?_⟩
   exact Cr
  have Xd:k<R3.length:=by have:=ah h;omega
  obtain⟨b6,o6,c6,e6,hg6⟩:=tX.real Xd;injection e6 with e61 _ e63;subst e61 e63;have hg6:=λj hj=>(hg6 j hj).sub (dy.sub (a:=q3))
  have HS:∀j (hj:j<R3.length),N2.l[j]'(by omega)=R3[j].1:=λj hj=>by
   simp only[<-hm3,qz]
  have ahx:=Rr.si.ok (N2.l[k]'(by omega)) (aO (by omega));rw[HS k Xd]at ahx;have kV:N2.n=n:=Rr.f.2.2
  repeat refine xS ?_
  refine xL (fZ (j:=2) (hg6 k Xd) rfl) ?_;apply bI<;>intro h
  ·exact absurd (by simpa using h:R3[k].1.jV=n) (kV▸ahx.pn)
  repeat refine xS ?_
  refine xL (fZ (j:=1) (hg6 k Xd) rfl) ?_;apply bI<;>intro h
  ·exact absurd (ahx.se.trans kV) (by simpa using h)
  repeat refine xS ?_
  refine xL (fZ (j:=4) (hg6 k Xd) rfl) ?_;apply bI<;>intro h
  ·exfalso
   have h':R3[k].1.round<1:=ah h;have:=ahx.r;omega
  apply bI<;>intro h;rotate_left
  ·refine⟨k+1,⟨by omega,rfl⟩,by omega,?_⟩
   exact Cr
  have ZB:0<k:=by have:=ah h;omega
  have HZ:=dz.1 Rr.si.ap (k-1) k (by omega) (by omega) (by omega);rw[HS k Xd,HS (k-1) (by omega)]at HZ;have ew:IntKind.i64.wrap ((k:Int)-1)=((k-1:Nat):Int):=by rw[wi];omega
  conv=>whnf
  rw[ew]
  repeat refine xS ?_
  refine xL (fZ (j:=2) (hg6 (k-1) (by omega)) rfl) ?_
  repeat refine xS ?_
  refine xL (fZ (j:=2) (hg6 k Xd) rfl) ?_;apply bI<;>intro h
  ·exact absurd (by simpa using h:R3[k-1].1.jV=R3[k].1.jV) HZ.1
  conv=>whnf
  rw[ew]
  repeat refine xS ?_
  refine xL (fZ (j:=0) (hg6 (k-1) (by omega)) rfl) ?_
  repeat refine xS ?_
  refine xL (fZ (j:=0) (hg6 k Xd) rfl) ?_;apply bI<;>intro h
  ·exfalso
   have h':R3[k].1.id<=R3[k-1].1.id:=ah h;have:=HZ.2;omega
  refine⟨k+1,⟨by omega,rfl⟩,by omega,?_⟩;exact Cr
end Go.E.Y
namespace Go.E
theorem Yg{H:Type}{enc:TypeId×Value->H}{P:Program}{w:World}{gM:Nat}{qg:Nat->Bool}{DR:Bool}{kJ:Nat}{t e:TypeId}{cs:List Value}{n:Nat}{k:IntKind}{zs:List Int}{p:List MemPlace}(ht:P.underlying t=some (.array n e))(he:P.underlying e=some (.int k))(hc:P.cellsOf e=1)(hct:P.cellsOf t=n)
  (h:DataW.trod enc P w gM qg DR kJ t cs=some (.agg (zs.map λz=>.lit (.int k z)),p)):cs=zs.map λz=>Value.int k z:=by
 obtain⟨xs,m,_,ex,hl,hn,xz⟩:=DataW.trod_array ht h;rw[hct]at hl;have e1:xs.map (·.1)=zs.map λz=>.lit (.int k z):=(DataW.agg.inj (Prod.mk.inj ex).1).symm;have hz:zs.length=n:=by have:=be List.length e1;simp at this;omega
 refine List.ext_getElem? λi=>?_;by_cases hi:i<n
 ·have h1:=xz i hi
  rw[hc,eG,az (by omega)]at h1;obtain⟨z,f1,f2,_⟩:=DataW.trod_int he h1;have e4:(xs.map (·.1))[i]?=(zs.map λz=>(DataW.lit (.int k z):DataW H))[i]?:=by rw[e1]
  rw[cj,cj,az (by omega:i<xs.length),az (by omega:i<zs.length),f2]at e4;have FN:z=zs[i]:=by simpa using e4
  have h0:((cs.drop i).take 1)[0]?=some (.int k z):=by rw[f1];rfl
  rw[cj,az (by omega:i<zs.length),<-FN];simpa using h0
 ·rw[jr (by omega),jr (by simp;omega)]
theorem Ge{H:Type}{enc:TypeId×Value->H}{P:Program}{w:World}{gM:Nat}{qg:Nat->Bool}{kJ:Nat}{t:TypeId}{cs:List Value}{ms:_}{name:String}{d:DataW H}{p:List MemPlace}(ht:P.underlying t=some (.interface ms))
  (h:DataW.trod enc P w gM qg false kJ t cs=some (.iface name d,p)):∃u v,cs=[.iface u v]:=by
 cases kJ with
 |zero=>simp[DataW.trod]at h
 |succ m=>
  unfold DataW.trod at h;rw[ht]at h
  split at h<;>simp_all
theorem F8{P:Program}{W:World}{name:String}{g:Nat}{cs:Array Value}(hg:P.globalNamed name=some g)(h:W.var? P name=some cs):∃T fr,W.heap[g]?=some (.cells cs T fr):=by
 unfold World.var? at h;rw[hg]at h;simp only[Option.bind_some]at h
 split at h
 ·rename_i arr T fr hb
  injection h with h;subst h
  exact⟨T,fr,hb⟩
 ·cases h
end Go.E
namespace Go.E.Y
open Go.Proofs
theorem ad5{W:World}(h:laidMetH Tryz.prog [("math/bits.deBruijn32tab",Go.Proofs.YtikipjbkjcefbaaGreatDoor.Rows.laid_math_bits_deBruijn32tab),("math/bits.deBruijn64tab",Go.Proofs.YtikipjbkjcefbaaGreatDoor.Rows.laid_math_bits_deBruijn64tab),("internal/strconv.uint64pow10",Go.Proofs.YtikipjbkjcefbaaGreatDoor.Rows.laid_internal_strconv_uint64pow10),("strconv.ErrRange",Go.Proofs.YtikipjbkjcefbaaGreatDoor.Rows.laid_strconv_ErrRange),("strconv.ErrSyntax",Go.Proofs.YtikipjbkjcefbaaGreatDoor.Rows.laid_strconv_ErrSyntax)] W):jZ (λb=>W.heap[b]?):=by
 rw[MakeChecks.laidMetH_plain _ _ _ (by kernel_rfl)]at h;obtain⟨ps,hl,_,_⟩:=h;obtain⟨g1,t1,c1,f1,p1,q1,Ag,Fa,lZ,LW,hl,_⟩:=hl;obtain⟨g2,t2,c2,f2,p2,q2,hg2,JI,lD,hd2,hl,_⟩:=hl;obtain⟨g3,t3,c3,f3,p3,q3,hg3,W5,tX,hd3,hl,_⟩:=hl;obtain⟨g4,t4,c4,f4,p4,q4,hg4,W4,QZ,hd4,hl,_⟩:=hl;obtain⟨g5,t5,c5,f5,p5,q5,hg5,W3,hv5,hd5,hl,_⟩:=hl;obtain rfl:=eL (aqU.symm.trans hg3);obtain rfl:=eL (aqW.symm.trans hg4);obtain rfl:=eL (aqV.symm.trans hg5);obtain⟨T3,r3,fN⟩:=F8 hg3 tX;obtain⟨T4,r4,hh4⟩:=F8 hg4 QZ;obtain⟨T5,r5,hh5⟩:=F8 hg5 hv5;obtain rfl:=eL ((show(Tryz.prog.globals[1]?).map (·.type)=some 518 by kernel_rfl).symm.trans W5);obtain rfl:=eL ((show(Tryz.prog.globals[3]?).map (·.type)=some 386 by kernel_rfl).symm.trans W4);obtain rfl:=eL ((show(Tryz.prog.globals[2]?).map (·.type)=some 386 by kernel_rfl).symm.trans W3);have k3:=Yg (zs:=Lib.pow10Tab) Tryz.underlying518 Tryz.underlying31 (by kernel_rfl) (by kernel_rfl) hd3;obtain⟨u4,w4,k4⟩:=Ge Tryz.underlying386 hd4;obtain⟨u5,w5,k5⟩:=Ge Tryz.underlying386 hd5;refine⟨⟨u5,w5,T5,r5,?_⟩,⟨u4,w4,T4,r4,?_⟩,⟨T3,r3,?_⟩⟩
 ·rw[hh5,<-iw (xs:=c5),k5]
 ·rw[hh4,<-iw (xs:=c4),k4]
 ·rw[fN,<-iw (xs:=c3),k3]
end Go.E.Y
