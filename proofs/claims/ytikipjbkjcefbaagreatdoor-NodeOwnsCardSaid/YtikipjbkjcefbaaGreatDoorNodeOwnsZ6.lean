import Derived.Test.YtikipjbkjcefbaaGreatDoorNodeOwnsZ5
import Derived.Test.YtikipjbkjcefbaaGreatDoorCards
import Derived.Lay
import Derived.LaidLaws
import Derived.MakeChecks
set_option maxHeartbeats 40000000
set_option maxRecDepth 100000
set_option linter.unusedVariables false
namespace Go.E.Y
open Go.Proofs
def lC:ByteArray:=⟨#[97,98,99]⟩
def aj9:List Int:=[0,1,0,0,0,0,0,0]
def VD:En:=(2,2,1,3)
def pJ:Ct:=(aj9,[VD])
def UV:vF:=⟨1,5,lC,(1,2,3),0,fP⟩
def ahe:vF:=⟨2,6,lC,(0,0,0),0,fP⟩
def UT:vF:=⟨4,0,ByteArray.empty,(0,0,0),1,fP⟩
theorem ac8:kZ (jR lC)=true:=by decide
theorem ag1:AD [VD]=[(2,1)]:=by
 simp[AD,TW,uP,kz,VD,ku,uw,S7,gL]
theorem PN:dA pJ.1 pJ.2=true:=by
 show dA aj9 [VD]=true
 unfold dA;rw[ag1];decide
theorem aq6:Jc (fx,[]) 2 (1,2,3)=(pJ,((1,2,3),(2,1),[]),0):=by
 have h1:Jy (1,2,3) []=[]:=by simp[Jy,AD,TW,uP,gL]
 have h2:nY [((2,2,1,3):En)]=[(2,2,1,3)]:=List.mergeSort_singleton _;have h3:nj (1,2,3) []=[]:=rfl;have h4:tv fx 2=(1,0):=by decide
 have h5:wR fx 2 1=aj9:=by decide
 unfold Jc;simp only[h1,h3,h4,h5];rw[if_neg (by decide),if_neg (by decide),if_neg (by simp),bV,h2];rfl
theorem UU:aaL UV=true:=by decide
theorem US:aaL ahe=true:=by decide
theorem HN:aaL UT=true:=by decide
theorem QD:aaL (sE 6)=true:=by decide
theorem QE:aaL (sE 3)=true:=by decide
theorem akt:∀x:Int,x=1\/x=2\/x=3↔x∈(ja (vA 3)).map (·.2):=by
 intro x;unfold ja;simp only[aV,List.mem_mergeSort,M3,Ju,iu,dS,List.mem_range'_1,agq];have e1:(vA 3).jv.toNat=3:=rfl;have e2:(vA 3).AO.toNat=4:=rfl;rw[e1,e2]
 constructor
 ·intro h
  refine⟨_,⟨x.toNat,by omega,0,by omega,rfl⟩,?_⟩;omega
 grind
theorem WO{part:Int}(hp:0<=part/\part<=7):(sB (vA 3) part).Nodup/\∀x,x∈sB (vA 3) part↔x=1\/x=2\/x=3:=by
 unfold sB;rw[if_neg (by omega)];refine ao1 λx=>(akt x).trans ?_;generalize (max (sH (λp=>decide (part*2305843009213693952<=p.1)) (ja (vA 3))) (0:Int)).toNat=i;simp only[aV,aR]
 constructor
 ·rintro⟨a,ha,e⟩
  rw[<-dL i (ja (vA 3))]at ha
  grind
 grind
variable{n:Int}
theorem Q3{part:Int}(hn:n=1\/n=2\/n=3)(hp:0<=part/\part<=7):l4 (vA 3) n part=true:=by
 unfold l4;rw[Kc];exact((WO hp).2 n).2 hn
theorem acm(hn:n=1\/n=2\/n=3):x8 (vA 3) n=[0,1,2,3,4,5,6,7]:=by
 unfold x8;rw[bY.2]
 ·rfl
 ·intro a ha
  refine Q3 hn ?_
  grind
theorem C9{a:Int}(ha:a=1\/a=2\/a=3)(hn:n=1\/n=2\/n=3)(h:a≠n):ng (vA 3) a n=[0,1,2,3,4,5,6,7]:=by
 unfold ng;rw[if_neg h,acm ha,bY.2];intro p hp;refine Q3 hn ?_;simp at hp;omega
theorem P3:kw (vA 3) 2=[1,3]:=by
 have h1:wU (vA 3) 2 1=true:=by unfold wU;rw[C9 (by omega) (by omega) (by omega)];decide
 have h2:wU (vA 3) 2 2=false:=by unfold wU ng;rw[aC rfl];decide
 have h3:wU (vA 3) 2 3=true:=by unfold wU;rw[C9 (by omega) (by omega) (by omega)];decide
 unfold kw pX;have e1:((List.range (vA 3).jv.toNat).map λ(i:Nat)=>((i+1:Nat):Int))=[1,2,3]:=rfl
 grind
theorem WP:(wW (vA 3) lC).Nodup/\∀x,x∈wW (vA 3) lC↔x=1\/x=2\/x=3:=by
 unfold wW;rw[aC ac8];have:=K7 lC;exact WO (by omega)
theorem Q4:sJ (vA 3) 2 lC=true:=by
 unfold sJ;rw[Kc];exact(WP.2 2).2 (by omega)
theorem YZ:∃a b:Int,ko (vA 3) lC 2=[a,b]/\(a=1\/a=3)/\(b=1\/b=3):=by
 obtain⟨hn,hm⟩:=WP
 have hf:∀x,x∈ko (vA 3) lC 2↔x=1\/x=3:=λx=>by
  unfold ko
  grind
 have hd:(ko (vA 3) lC 2).Nodup:=hn.filter _;generalize ko (vA 3) lC 2=l at hf hd
 match l,hf,hd with
 |[],hf,_=>exact absurd ((hf 1).2 (.inl rfl)) (by simp)
 |[a],hf,_=>
  have h1:=(hf 1).2 (.inl rfl);have h3:=(hf 3).2 (.inr rfl);simp at h1 h3;omega
 |[a,b],hf,_=>exact⟨a,b,rfl,(hf a).1 (by simp),(hf b).1 (by simp)⟩
 |a::b::c::r,hf,hd=>
  have ha:=(hf a).1 (by simp);have hb:=(hf b).1 (by simp);have hc:=(hf c).1 (by simp);simp only[nU,aU,not_or]at hd;omega
theorem zm{t:Int}(ht:t=1\/t=3):dR (iL 2 t (lC,pJ))=true:=by
 have hl:cX [((lC,pJ):Kd)]=true:=vV.2 ⟨λx hx=>by rw[aL.1 hx];exact⟨by decide,PN⟩,Fu _ _,by simp⟩;unfold dR Vo iL;simp only[hl];rcases ht with rfl|rfl<;>decide
structure O0(N:fw)(su o:Nat)(an:List Rv)(l:List kl)(bQ dO:Int):Prop where
 (c:N.c=vA 3)
 (w:N.w=Rl)
 (n:N.n=2)
 (L:N.s.L=[(lC,pJ)])
 (R:N.s.R.length=1)
 (su:N.s.cY=su)
 (o:N.B.dE.length=o/\∀r∈N.B.dE,r.2=1)
 (an:N.B.o7=an.map λx=>(x,1))
 (l:N.l=l)
 (bQ:N.bQ=bQ)
 (dO:N.dO=dO)
variable {N N':fw}{y:XL}{ns su o:Nat}{an:List Rv}{l:List kl}{bQ dO:Int}
theorem MM{x:gX}(hR:N.s.R.length=1)(ho:N.B.dE.length=o/\∀r∈N.B.dE,r.2=1)(hx:dR x=true):(N.send x).B.dE.length=o+1/\∀r∈(N.send x).B.dE,r.2=1:=by
 show(N.B.send x _).dE.length=_/\_
 have e:(N.send x).B.dE=N.B.dE++[(x,((N.s.R.length:Nat):Int))]:=by
  show(N.B.send x _).dE=_
  unfold kf.send
  grind
 have e2:(N.B.send x ((N.s.R.length:Nat):Int)).dE=N.B.dE++[(x,((N.s.R.length:Nat):Int))]:=e
 grind
theorem ae3(hd:y4 0 (N0 3 2 ns) UV N' y):y.err=0/\y.ev.2.1.2=1/\O0 N' 0 2 [⟨5,0,[]⟩] [] 0 0:=by
 unfold y4 at hd;rw[if_neg (by rw[UU];simp),aC (show UV.kind=1 from rfl)]at hd;have hL:(N0 3 2 ns).s.L=[]:=rfl;have hg:gh (N0 3 2 ns).s.L lC=(fx,[]):=rfl
 have hp:rq 0 (N0 3 2 ns).A (N0 3 2 ns).s (lC,pJ)=0:=by
  have h1:sW (N0 3 2 ns).s lC pJ=0:=by
   unfold sW;rw[if_neg (by rw[ac8];simp),if_neg (by rw[PN];simp),if_neg (show ¬ 0<(N0 3 2 ns).s.st from Nat.lt_irrefl 0)]
  unfold rq;rw[if_neg (by simp only[h1];simp),if_neg];rintro⟨h,_⟩;exact absurd h (by decide)
 obtain⟨a,b,ho,ha,hb⟩:=YZ;unfold lW at hd;have e1:(N0 3 2 ns).c=vA 3:=rfl;have e2:(N0 3 2 ns).n=2:=rfl;have e3:UV.key=lC:=rfl;have e4:UV.op=(1,2,3):=rfl;have e5:UV.id=5:=rfl;simp only[e1,e2,e3,e4,e5,hg,aq6,Q4,hp,ho]at hd;rw[if_neg (by simp),if_neg (by simp),if_neg (by simp)]at hd;obtain⟨h1,h2⟩:=MF hd;refine⟨by rw[h2],by rw[h2],?_⟩;have s1:=MM (N:=((N0 3 2 ns).put (lC,pJ)).nX ⟨5,0,[]⟩) (o:=0) (x:=iL 2 a (lC,pJ)) rfl ⟨rfl,λr hr=>by cases hr⟩ (zm ha);have s2:=MM (N:=(((N0 3 2 ns).put (lC,pJ)).nX ⟨5,0,[]⟩).send (iL 2 a (lC,pJ))) (x:=iL 2 b (lC,pJ)) rfl s1 (zm hb)
 have e6:N'=((((N0 3 2 ns).put (lC,pJ)).nX ⟨5,0,[]⟩).send (iL 2 a (lC,pJ))).send (iL 2 b (lC,pJ)):=by
  rw[h1]
  show fw.push (fw.push _ a _) b _=_
  unfold fw.push;have ea:dR (iL (((N0 3 2 ns).put (lC,pJ)).nX ⟨5,0,[]⟩).n a (lC,pJ))=true:=zm ha;rw[aC ea];have eb:dR (iL ((((N0 3 2 ns).put (lC,pJ)).nX ⟨5,0,[]⟩).send (iL (((N0 3 2 ns).put (lC,pJ)).nX ⟨5,0,[]⟩).n a (lC,pJ))).n b (lC,pJ))=true:=zm hb;rw[aC eb];rfl
 have hs:N'.s=(N0 3 2 ns).s.put (lC,pJ):=by rw[e6];rfl
 have ean:(kf.send (kf.send (kf.nX ⟨[],[]⟩ ⟨5,0,[]⟩ 1) (iL 2 a (lC,pJ)) 1) (iL 2 b (lC,pJ)) 1).o7=[(⟨5,0,[]⟩,1)]:=by
  unfold kf.send;rw[aC (zm ha),aC (zm hb)];rfl
 refine⟨by rw[e6];rfl,by rw[e6];rfl,by rw[e6];rfl,?_,by rw[hs];rfl,by rw[hs];rfl,by rw[e6];exact s2,?_,by rw[e6];rfl,by rw[e6];rfl,by rw[e6];rfl⟩
 ·rw[hs,jf.ai3]
  rfl
 ·rw[e6]
  exact ean
theorem aiz(h:O0 N 0 o an l bQ dO):N.Nb=[]/\O0 N.AA 0 o an l bQ dO:=by
 have hm:∀r∈N.B.dE,kh ((N.s.cY:Nat):Int) r.2=false:=λr hr=>by rw[h.o.2 r hr,h.su];decide
 have e1:N.Nb=[]:=by
  show(N.B.dE.filter _).map _=[]
  (simp_all;omega)
 have e2:N.AA.B.dE=N.B.dE:=bY.2 λr hr=>by rw[hm r hr];rfl
 exact⟨e1,h.c,h.w,h.n,h.L,h.R,h.su,by rw[e2];exact h.o,h.an,h.l,h.bQ,h.dO⟩
theorem ae2(h:O0 N 0 o an l bQ dO):N.BI=[]/\O0 N.uo 0 o an l bQ dO:=by
 have hm:∀r∈N.B.o7,kh ((N.s.cY:Nat):Int) r.2=false:=λr hr=>by
  rw[h.an]at hr;obtain⟨x,_,rfl⟩:=aV.1 hr;rw[h.su];rfl
 have e1:N.BI=[]:=by
  show(N.B.o7.filter _).map _=[]
  (simp_all;omega)
 have e2:N.uo.B.o7=N.B.o7:=bY.2 λr hr=>by rw[hm r hr];rfl
 exact⟨e1,h.c,h.w,h.n,h.L,h.R,h.su,h.o,by rw[e2];exact h.an,h.l,h.bQ,h.dO⟩
theorem aiy(h:O0 N 1 o an l bQ dO):N.Nb.length=o/\O0 N.AA 1 0 an l bQ dO:=by
 have hm:∀r∈N.B.dE,kh ((N.s.cY:Nat):Int) r.2=true:=λr hr=>by rw[h.o.2 r hr,h.su];decide
 have e1:N.Nb.length=o:=by
  show((N.B.dE.filter _).map _).length=o
  rw[aH,bY.2 hm];exact h.o.1
 have e2:N.AA.B.dE=[]:=gP.2 λr hr=>by rw[hm r hr];simp
 exact⟨e1,h.c,h.w,h.n,h.L,h.R,h.su,by rw[e2];exact⟨rfl,λr hr=>by cases hr⟩,h.an,h.l,h.bQ,h.dO⟩
theorem ae1(h:O0 N 1 o an l bQ dO):N.BI=an/\O0 N.uo 1 o [] l bQ dO:=by
 have hm:∀r∈N.B.o7,kh ((N.s.cY:Nat):Int) r.2=true:=λr hr=>by
  rw[h.an]at hr;obtain⟨x,_,rfl⟩:=aV.1 hr;rw[h.su];rfl
 have e1:N.BI=an:=by
  show(N.B.o7.filter _).map _=an
  rw[bY.2 hm,h.an,fS];exact lL an
 have e2:N.uo.B.o7=[]:=gP.2 λr hr=>by rw[hm r hr];simp
 exact⟨e1,h.c,h.w,h.n,h.L,h.R,h.su,h.o,by rw[e2];rfl,h.l,h.bQ,h.dO⟩
theorem aiw(h:O0 N 0 o an l bQ dO)(hd:y4 0 N (sE 6) N' y):y.err=0/\O0 N' 1 o an l bQ dO:=by
 unfold y4 at hd;rw[if_neg (by rw[QD];simp)]at hd;simp[sE]at hd;obtain⟨kc,_,h1,h2⟩:=hd;rw[h1,h2];exact⟨rfl,h.c,h.w,h.n,h.L,h.R,h.R,h.o,h.an,h.l,h.bQ,h.dO⟩
def GA:kl:=vT ⟨1,2,3,0,1,[],Rl,0⟩ 1 [] 0
theorem aiA(h:O0 N 1 0 [] [] 0 0)(hd:y4 0 N UT N' y):y.err=0/\∃o',O0 N' 1 o' [] [GA] 0 1:=by
 unfold y4 at hd;rw[if_neg (by rw[HN];simp)]at hd;simp[UT]at hd;have hp:lV (kw N.c N.n) 1=(3,0):=by rw[h.c,h.n,P3];decide
 have hb:qs N 1=(GA,0):=by
  unfold qs;rw[hp,h.c,h.n,h.w,h.bQ,h.dO,C9 (by omega) (by omega) (by omega)];rfl
 have e:oC N 1=((N.add GA).CR GA,0):=by
  unfold oC;rw[hp,if_neg (by simp),if_neg (by rw[h.l];simp),hb,if_neg (by simp)]
 rw[e]at hd;obtain⟨h1,h2⟩:=hd;refine⟨by rw[h2],?_⟩;rw[h1];have h0:O0 (N.add GA) 1 0 [] [GA] 0 1:=⟨h.c,h.w,h.n,h.L,h.R,h.su,h.o,h.an,by show N.l++[GA]=_;rw[h.l];rfl,h.bQ,by show N.dO+1=1;rw[h.dO];rfl⟩;unfold fw.CR;split
 ·by_cases hr:dR (Aa GA (N.add GA).s.L)=true
  ·refine⟨_,h0.c,h0.w,h0.n,h0.L,h0.R,h0.su,MM h0.R h0.o hr,?_,h0.l,h0.bQ,h0.dO⟩
   rw[xR];exact h0.an
  ·refine⟨0,h0.c,h0.w,h0.n,h0.L,h0.R,h0.su,?_,?_,h0.l,h0.bQ,h0.dO⟩
   ·show(kf.send _ _ _).dE.length=0/\∀r∈(kf.send _ _ _).dE,_
    unfold kf.send;rw[if_neg hr];exact h0.o
   ·rw[xR];exact h0.an
 grind
theorem ae0(h:O0 N 1 o an [GA] 0 1)(hd:y4 0 N UT N' y):y.err=10/\N'=N:=by
 unfold y4 at hd;rw[if_neg (by rw[HN];simp)]at hd;simp[UT]at hd;have hp:lV (kw N.c N.n) 1=(3,0):=by rw[h.c,h.n,P3];decide
 have e:oC N 1=(N,10):=by
  unfold oC;rw[hp,if_neg (by simp),aC (by rw[h.l];decide)]
 grind
theorem abh:um [VD]=[(2,3)]:=by
 unfold um;rw[show nY [VD]=[VD] from List.mergeSort_singleton _];decide
theorem aix(h:O0 N su o an l bQ dO)(hd:y4 0 N ahe N' y):y.ln=[(2,3)]/\∃an',O0 N' su o an' l bQ dO:=by
 unfold y4 at hd;rw[if_neg (by rw[US];simp)]at hd;simp[ahe]at hd;unfold qj at hd;have hg:gh N.s.L lC=pJ:=by rw[h.L];decide
 rw[h.c,h.n]at hd;simp only[Q4,hg]at hd;rw[if_neg (by simp)]at hd;obtain⟨h1,h2⟩:=MF hd;refine⟨by rw[h2];exact abh,an++[⟨6,0,As (um pJ.2)⟩],?_⟩;rw[h1];refine⟨h.c,h.w,h.n,h.L,h.R,h.su,h.o,?_,h.l,h.bQ,h.dO⟩
 show N.B.o7++[(_,((N.s.R.length:Nat):Int))]=_
 rw[h.an,h.R,bD];rfl
theorem aiv(h:O0 N su o an [GA] 0 dO)(hd:y4 0 N (sE 3) N' y):y.err=0/\N'.bQ=1/\N'.l.length=1/\N'.n=2:=by
 unfold y4 at hd;rw[if_neg (by rw[QE];simp)]at hd;simp[sE]at hd;obtain⟨h1,h2⟩:=hd;have hb:=vM (N.bQ+1) N.l (N.at (N.bQ+1),[]);have h3:=FC (N.bQ+1) N.l (N.at (N.bQ+1),[]);have e:=hb.e
 have eT:lO N=({(N.l.foldl (Au (N.bQ+1)) (N.at (N.bQ+1),[])).1 with l:=(N.l.foldl (Au (N.bQ+1)) (N.at (N.bQ+1),[])).2},0):=by
  unfold lO;rw[if_neg (by rw[h.bQ];decide)]
 rw[eT]at h1 h2;have ec:((N.l.map λs=>(kX s (N.bQ+1)).1).filter λt=>decide (0<t.round)).length=1:=by rw[h.l,h.bQ];rfl
 generalize N.l.foldl (Au (N.bQ+1)) (N.at (N.bQ+1),[])=Z at*;refine⟨by rw[h2],?_,?_,?_⟩
 ·rw[h1];show Z.1.bQ=1;rw[e];show N.bQ+1=1;rw[h.bQ];rfl
 ·rw[h1];show Z.2.length=1;rw[h3];simpa using ec
 ·rw[h1];show Z.1.n=2;rw[e];exact h.n
variable {qt:Int}{N N':fw}{j k e:Nat}
variable{m:aD}
theorem Li{c:Rc}{w:Bk}{f:CV}(h1:c.ok=true)(h2:w.ok=true)(h3:c.jv<n):
  eN tP 25 [.a (Sq c w),i64 n,f] m [.v (.pointer none),i64 11]:=by
 refine A4 c25 Tryz.func25 ?_
 first|refine fU (qk) ?_ |refine bt (qk) ?_
 conv=>whnf
 rw[h1,h2];refine xN ?_;apply bI<;>intro h
 ·exact rR
 apply bI<;>intro h
 ·exact rR
 ·exfalso
  have:=aj h;omega
variable{r:Int}
theorem SO(h:Al qt r n j k e N):Al qt r n j k e N.AA:=by
 have hl:N.AA.B.dE.length<=N.B.dE.length:=bC _ _;have hb:y7 N N.AA 0:=⟨rfl,by omega⟩;exact⟨h.i.box hb,h.f,h.si.box hb,⟨bq hl h.z.o,h.z.an,h.z.bQ,h.z.dO⟩,h.w.box hb⟩
theorem Mk(h:Al qt r n j k e N):Al qt r n j k e N.uo:=by
 have hl:N.uo.B.o7.length<=N.B.o7.length:=bC _ _;have hb:y7 N N.uo 0:=⟨rfl,by show N.B.dE.length<=_;omega⟩;exact⟨h.i.box hb,h.f,h.si.box hb,⟨h.z.o,bq hl h.z.an,h.z.bQ,h.z.dO⟩,h.w.box hb⟩
theorem zt{x:vF}(hm:x.AB=fP)(hd:0<=x.dr/\x.dr<18446744073709551616):ON x:=by
 have h:=QC 3;exact⟨⟨by rw[hm];exact h.r.m,hd⟩,by rw[hm];exact h.s⟩
theorem FM{x:vF}(hm:x.AB=fP)(hd:0<=x.dr/\x.dr<18446744073709551616)(hk:x.key.size<=100):vC m x Nk:=
 (zt hm hd).at hk (by rw[hm];exact(B1 m 3).je)
theorem agX{α β:Type}{f:α->β}:∀{l:List α}{b:β},l.map f=[b]->∃r,l=[r]/\f r=b
 |[r],_,h=>⟨r,rfl,(List.cons.inj h).1⟩
 |[],_,h=>by cases h
 |_::_::_,_,h=>by cases(List.cons.inj h).2
theorem rG(hg:jZ m):bi tP 8 [] m λr m'=>r=[bR true]/\cL m m':=by
 have wo:(1:Int)<=3/\(3:Int)<=3:=by omega
 have JN:(1:Int)<=2/\(2:Int)<=3:=by omega
 refine ub Tryz.func8 ?_;refine aP (Qk (q:=0) (by omega)) ?_;rintro _ m1⟨bf,pf,rfl,bM,hf⟩
 first|refine fU (yQ) ?_ |refine bt (yQ) ?_
 refine aP (Ql (n:=2) (r:=3) hg bM hf (by omega) (by omega) (by omega)) ?_;rintro _ m2⟨X,kc,p',q',rfl,hb,bZ,rO,kV,hI2⟩;obtain⟨lv,pr,ps,pf',pb,pl,R,hO⟩:=kV.op bZ;refine xN ?_;refine xN ?_;refine xN ?_
 first|refine fU (yg hO.o) ?_ |refine bt (yg hO.o) ?_
 refine xN ?_;have hA0:=SS hI2;refine aP (qm (x:=UV) (s:=Nk) (hg.sub rO) bZ kV (hA0.t wo JN) hA0.i (by omega) (by omega) (FM rfl (by decide) (by decide)) (by decide) (hA0.nz JN (by omega)) (by decide)) ?_;rintro _ m3⟨N1,y1,LW,qn⟩;obtain⟨p3,q3,ea1,ec1,la1,lc1,rfl,dy,EK,LQ,_⟩:=qn.ex;have Tg:=Ml hA0 wo JN (by omega) (by omega) (zt rfl (by decide)) LW;obtain⟨e1,e1',av1⟩:=ae3 LW;refine aP (Lh dy LQ (by have:=Tg.z.o;omega)) ?_;rintro _ m4⟨v4,p4,q4,R4,rfl,eP,Zx,hn4,hR4,hm4,_⟩;obtain⟨f4,av4⟩:=aiz av1;have hA4:=SO Tg;generalize N1.AA=N4 at*;refine aP (Hb eP hn4 (by have:=hA4.z.an;omega)) ?_;rintro _ m5⟨v5,p5,q5,R5,rfl,eD,NM,w6,hR5,hm5,_⟩;obtain⟨f5,av5⟩:=ae2 av4;have hA5:=Mk hA4;generalize N4.uo=N5 at*;have hg5:jZ q5:=((((hg.sub rO).sub EK).sub Zx).sub NM);refine aP (qm (x:=sE 6) (s:=Nk) hg5 eD w6 (hA5.t wo JN) hA5.i (by omega) (by omega) (B1 _ _) (by decide) (hA5.nz JN (by omega)) (by decide)) ?_;rintro _ m6⟨N6,y6,hd6,hr6⟩;obtain⟨p6,q6,ea6,ec6,la6,lc6,rfl,gC,Zw,I9,_⟩:=hr6.ex;have hA6:=Ml hA5 wo JN (by omega) (by omega) (zt rfl (by decide)) hd6;obtain⟨e6,av6⟩:=aiw av5 hd6;refine aP (Lh gC I9 (by have:=hA6.z.o;omega)) ?_;rintro _ m7⟨v7,p7,q7,R7,rfl,iU,hq7,hn7,hR7,hm7,_⟩;obtain⟨f7,av7⟩:=aiy av6;have hA7:=SO hA6;generalize N6.AA=N7 at*;refine aP (Hb iU hn7 (by have:=hA7.z.an;omega)) ?_;rintro _ m8⟨v8,p8,q8,R8,rfl,k8,Zv,JO,hR8,hm8,_⟩;obtain⟨f8,av8⟩:=ae1 av7;have hA8:=Mk hA7;generalize N7.uo=N8 at*;have hg8:jZ q8:=(((hg5.sub Zw).sub hq7).sub Zv);refine aP (qm (x:=UT) (s:=Nk) hg8 k8 JO (hA8.t wo JN) hA8.i (by omega) (by omega) (FM rfl (by decide) (by decide)) (by decide) (hA8.nz JN (by omega)) (by decide)) ?_;rintro _ m9⟨N9,y9,hd9,hr9⟩;obtain⟨p9,q9,ea9,ec9,la9,lc9,rfl,zv,hq9,tj,_⟩:=hr9.ex;have hA9:=Ml hA8 wo JN (by omega) (by omega) (zt rfl (by decide)) hd9;obtain⟨e9,o9,av9⟩:=aiA av8 hd9;have hg9:=hg8.sub hq9;refine aP (qm (x:=UT) (s:=Nk) hg9 zv tj (hA9.t wo JN) hA9.i (by omega) (by omega) (FM rfl (by decide) (by decide)) (by decide) (hA9.nz JN (by omega)) (by decide)) ?_;rintro _ m10⟨N10,y10,aqm,at5⟩
 obtain⟨p10,q10,aCl,aCh,azY,azU,rfl,nr,UY,NS,_⟩:=at5.ex;have ah1:=Ml hA9 wo JN (by omega) (by omega) (zt rfl (by decide)) aqm;obtain⟨e10,adw⟩:=ae0 av9 aqm;subst adw;have ap6:=hg9.sub UY;refine aP (qm (x:=ahe) (s:=Nk) ap6 nr NS (ah1.t wo JN) ah1.i (by omega) (by omega) (FM rfl (by decide) (by decide)) (by decide) (ah1.nz JN (by omega)) (by decide)) ?_;rintro _ m11⟨N11,y11,aql,at4⟩;obtain⟨p11,q11,aCk,aCg,azX,azT,rfl,u7,ald,alh,ap3⟩:=at4.ex;have alZ:=Ml ah1 wo JN (by omega) (by omega) (zt rfl (by decide)) aql;obtain⟨e11,aC3,awW⟩:=aix av9 aql;have auT:=ap6.sub ald;refine aP (qm (x:=sE 3) (s:=Nk) auT u7 alh (alZ.t wo JN) alZ.i (by omega) (by omega) (B1 _ _) (by decide) (alZ.nz JN (by omega)) (by decide)) ?_;rintro _ m12⟨N12,y12,au0,at3⟩;obtain⟨p12,q12,aCj,aCf,azW,azS,rfl,JJ,apF,adG,_⟩:=at3.ex;obtain⟨e12,avO,aq4,avN⟩:=aiv awW au0
 first|refine fU (Li (c:=vA 3) (w:=Rl) (n:=4) (by decide) (by decide) (by decide)) ?_ |refine bt (Li (c:=vA 3) (w:=Rl) (n:=4) (by decide) (by decide) (by decide)) ?_
 have avn:R4=[]:=zW.1 (hm4.trans f4);have avm:R5=[]:=zW.1 (hm5.trans f5);have avl:R7.length=2:=by rw[<-f7,<-hm7,aH]
 obtain⟨r8,avk,hr8⟩:=agX (hm8.trans f8);subst avn avm avk;obtain⟨aCa,aB6,azP⟩:=y11;simp only at e11;subst e11;obtain⟨⟨i8,r8e,l8⟩,s8⟩:=r8;simp only at hr8;cases hr8;obtain⟨a4,c4,rfl⟩:=hR4.shape;obtain⟨a5,c5,rfl⟩:=hR5.shape;obtain⟨a7,c7,rfl⟩:=hR7.shape;obtain⟨b8,o8,c8,rfl,hc8⟩:=hR8.real (i:=0) (by simp);obtain⟨b11,o11,c11,auO,alD⟩:=ap3.real (i:=0) (by simp);injection auO with eK _ fN;subst eK fN;have hc8:=hc8 0 (by simp);have alD:=alD 0 (by simp);have ahB:cL q11 m12:=apF.trans (JJ.sub);rw[avl];obtain⟨er1,⟨aB4,⟨aB3,aB1⟩,aB2⟩,ln1⟩:=y1;obtain⟨er6,ev6,ln6⟩:=y6;obtain⟨er9,ev9,ln9⟩:=y9;obtain⟨aCb,aB7,azQ⟩:=y10;obtain⟨aB9,aB5,azO⟩:=y12;simp only at e1 e1' e6 e9 e10 e12;subst e1 e1' e6 e9 e10 e12;refine xN ?_;refine xN ?_;refine xY ?_;refine xY ?_;refine xY ?_;refine xY ?_;refine xY ?_;refine⟨⟨by omega,by simp⟩,?_⟩;refine⟨_,fZ (j:=0) (hc8.sub (((hq9.trans UY).trans ald).trans ahB)) rfl,rfl,?_⟩;refine xY ?_;refine xY ?_;refine xY ?_;refine⟨⟨by omega,by simp⟩,?_⟩;refine⟨_,fZ (j:=1) (alD.sub ahB) rfl,rfl,?_⟩;refine xY ?_;refine xY ?_;obtain⟨lv,pr,ps,pf',pb,pl,R,hO⟩:=adG.op JJ
 first|refine fU (Lj hO.o) ?_ |refine bt (Lj hO.o) ?_
 conv=>whnf
 rw[avO];refine xY ?_;refine aP (A5 JJ adG (by rw[aq4];decide)) ?_;rintro _ m13⟨v13,q13,R13,rfl,NL,at7,Q7,atK,auz⟩;have avo:R13.length=1:=by rw[<-aq4,<-auz,aH]
 obtain⟨a13,c13,rfl⟩:=atK.shape;rw[avo];refine xY ?_;refine xY ?_;obtain⟨lv2,pr2,ps2,Va,pb2,pl2,R2,hO2⟩:=Q7.op NL
 first|refine fU (BW hO2.o) ?_ |refine bt (BW hO2.o) ?_
 conv=>whnf
 rw[avN];refine xY ?_
 first|refine fU (qk (c:=vA 3) (w:=Rl)) ?_ |refine bt (qk (c:=vA 3) (w:=Rl)) ?_
 refine⟨rfl,?_⟩;exact rO.trans (EK.trans (Zx.trans (NM.trans (Zw.trans (hq7.trans (Zv.trans (hq9.trans (UY.trans (ald.trans (apF.trans (at7.trans (NL.sub))))))))))))
variable {mm m p q:aD}{X:Jg}{N:fw}{j k e:Nat}{n:Int}
variable {m:aD}{n:Int}
theorem aro{qt:Int}{N:fw}{j k e j' k' e':Nat}(h:Al qt r n j k e N)(hj:j<=j')(hk:k<=k')(he:e<=e'):Al qt r n j' k' e' N:=
 ⟨h.i.up hj hk,h.f,h.si,⟨by have:=h.z.o;omega,by have:=h.z.an;omega,by have:=h.z.bQ;omega,by have:=h.z.dO;omega⟩,h.w⟩
theorem agF{v:Value}{O:List O31}(hv:V9 m v O){i:Nat}(hi:i<O.length):∃b o c,v= .slice (some ⟨b,o,none⟩) O.length c/\gR m b (o+i*49)=some (.int .i64 O[i].kind)/\dQ m b (o+i*49+1) (LB.cz (O[i].x.L O[i].s)):=by
 obtain⟨b,o,c,e,hg⟩:=hv.el i hi;refine⟨b,o,c,e,fZ (j:=0) (hg i hi) rfl,?_⟩;obtain⟨arr,t,fr,g1,g2⟩:=hg i hi;refine⟨arr,t,fr,g1,λjj u hu=>?_⟩
 have:=g2 (1+jj) u (by
  show(Value.int .i64 O[i].kind::LB.cz (O[i].x.L O[i].s++[.one O[i].dO]))[1+jj]?=some u
  rw[uG 1 jj,Fv,LB.jW,aT (aQ.1 hu).1]
  exact hu)
 rw[show o+i*49+1+jj=o+i*49+(1+jj) by omega];exact this
variable {m:aD}{n:Int}
theorem apV{qt:Int}{N N':fw}{j k e:Nat}(h:Al qt r n j k e N)(hr:1<=r/\r<=3)(hn:1<=n/\n<=3)(hj:j<=1260)(he:e<=90){y:XL}(hd:y4 qt N (sE 6) N' y):Al qt r n j (k+2) (e+1) N':=by
 have h1:=Ml h hr hn hj he (zt rfl (by decide)) hd;refine⟨?_,h1.f,h1.si,h1.z,h1.w⟩;unfold y4 at hd;rw[if_neg (by rw[QD];simp)]at hd;simp[sE]at hd;obtain⟨kc,h6,rfl,_⟩:=hd;exact(agH h.i h6).i
theorem aoe(N:fw):N.Nb.length<=N.B.dE.length:=by
 show((N.B.dE.filter _).map _).length<=_
 rw[aH];exact bC _ _
theorem afQ{c:Rc}{t:Int}{k:ByteArray}(h:sJ c t k=true):k.size<=20:=by
 unfold sJ wW at h
 split at h
 ·rename_i hk
  unfold kZ at hk;simp only[aB,bA]at hk;have h1:=zH k;have h2:(chI k).length=(jR k).length:=aH _;have:=hk.1.2;omega
 ·cases h
theorem auX(x:gX)(s:iS):(Yc.enc (x,s))[39]?=some (.slice s.c.1 x.ca.length s.c.2):=by
 have hd:(p32 x.jI).length=32:=M9 _
 have e1:Yc.enc (x,s)=(LB.cz [.one (.int .i64 x.kind),.one (.int .i64 x.fr),.one (.int .i64 x.qe),.one (.int .i64 x.qA),.one (.int .i64 x.part),.bG .u8 32 (nc (p32 x.jI))])++[.slice s.p.1 x.pl.length s.p.2,.slice s.d.1 x.dg.length s.d.2,.slice s.c.1 x.ca.length s.c.2]:=by
  show LB.cz (gX.L _ s)=_
  simp[LB.cz,eB.cells]
 rw[e1,bJ (by simp[LB.cz,eB.cells,hd])];simp[LB.cz,eB.cells,hd]
theorem aaQ{v:Value}{O:List O31}(hg:jZ m)(hv:V9 m v O)(hO:O.length<=9223372036854775807)(hn: -9223372036854775808<=n/\n<=9223372036854775807):
  bi tP 5 [i64 n,.v v] m λr m'=>r=[bR true]/\cL m m':=by
 obtain⟨av,cv,rfl⟩:=hv.sh;refine A4 c5 Tryz.func5 ?_;refine aP (NY hv hO) ?_;rintro _ m⟨g,rfl,hm,Xe⟩;subst hm;apply bI<;>intro h
 ·refine aP (rG hg) ?_
  rintro _ m1⟨rfl,bM⟩;exact⟨rfl,bM⟩
 apply bI<;>intro h1
 ·refine aP (rG hg) ?_
  rintro _ m1⟨rfl,bM⟩;exact⟨rfl,bM⟩
 apply bI<;>intro h3
 ·refine aP (rG hg) ?_
  rintro _ m1⟨rfl,bM⟩;exact⟨rfl,bM⟩
 have Q7:1<=n/\n<=3:=by
  have:=aj h1;have:=aj h3;omega
 have B8:=Xe h;refine aP (OF (qt:=0) hg (by omega) Q7) ?_;rintro _ m1⟨X,kc,p1,q1,rfl,bM,mQ,hN1,hI1⟩;have Tg:=SS hI1;have hW1:OW (N0 2 n kc):=ajb
 first|refine fU (yQ) ?_ |refine bt (yQ) ?_
 refine aP (agh (c:=vA 2) (by decide)) ?_;rintro _ _⟨br,hbr,rfl,rfl⟩;have bZ:=bM.new hbr (eO (vA 2) 0 0 0 (.slice none 0 0));obtain⟨j1,LR,dy⟩:=aq.ad9 (k:=[p1,q1]) (l:=[blk1 br (eO (vA 2) 0 0 0 (.slice none 0 0))]) (bZ.ir [1,2,0]);refine xN ?_;refine xN ?_;have aBA:=B8.1;refine .mk (ι:=Nat) (λi=>40-i) (λi m'=>i<=O.length/\∃pr j p' q' N',aq m' [j,pr]/\aq j [p',q']/\jY pr br (vA 2)/\cL m q'/\y0 p' q' X 0 N'/\Al 0 2 n (31*i) (2+4*i) (2*i) N'/\OW N') (λi=>[(0,.c (i64 n)),(1,.c (.v (.slice av O.length cv))),(5,.c (cx X.a)),(7,.c (fy br)),(9,.c (i64 i))]) (λ_=>[]) 0 ⟨by omega,_,j1,p1,q1,_,dy,LR,.inl (aq.one _),mQ,hN1,Tg,hW1⟩ ?_ ?_
 ·exact Cr
 rintro i m2⟨hi,pr,j2,p2,q2,N2,bZ,Re,hR2,rO,hN2,Rr,hW2⟩;have wq:=(rO.trans (Re.sub (a:=q2))).trans (bZ.sub (a:=j2));apply bI<;>intro h;rotate_left
 ·refine aP (rG (hg.sub wq)) ?_
  rintro _ m3⟨rfl,dy⟩;exact⟨rfl,wq.trans dy⟩
 have bH:i<O.length:=by have:=ah h;omega
 obtain⟨b5,o5,c5,e5,hk5,hx5⟩:=agF (hv.sub wq) bH;injection e5 with e51 _ e53;subst e51 e53;have ez:=hv.ok O[i] (aO bH);have aho:=B8.2 O[i] (aO bH);generalize O[i]=op at*
 repeat refine xS ?_
 refine xL (hk5) ?_;refine⟨λh=>?a1,λh=>?a2⟩
 case' a1=>
  repeat refine xS ?_
  refine⟨op.x.L op.s,WW ez.a.Th,rfl,by simp only[bK,aA];exact hx5,?_⟩;refine aP (bi.frame bZ (qm (x:=op.x) (s:=op.s) (hg.sub rO) Re hN2 (Rr.t (by omega) Q7) Rr.i (by omega) (by omega) (ON.at ⟨ez.r,aho.2⟩ aho.1 (ez.a.sub rO)) aho.2.c.1 (Rr.nz Q7 (by omega)) ez.r.d)) ?_;rintro _ m2⟨j2,⟨N2,y,hd,hr⟩,bZ⟩;have hW2:=ap5 hW2 Rr.si hd;have Rr:=aro (Ml Rr (by omega) Q7 (by omega) (by omega) ⟨ez.r,aho.2⟩ hd) (j':=31*i+31) (k':=2+4*i+2) (e':=2*i+1) (by omega) (by omega) (by omega);obtain⟨p2,q2,_,_,_,_,rfl,Re,EK,hN2,_⟩:=hr.ex;have rO:=rO.trans EK
 case' a2=>
  have Rr:=aro Rr (j':=31*i+31) (k':=2+4*i+2) (e':=2*i+1) (by omega) (by omega) (by omega)
 all_goals
  refine aP (bi.frame bZ (qm (x:=sE 6) (s:=Nk) (hg.sub rO) Re hN2 (Rr.t (by omega) Q7) Rr.i (by omega) (by omega) (B1 _ _) (by decide) (Rr.nz Q7 (by omega)) (by decide))) ?_;rintro _ m2⟨j2,⟨N2,y,hd,hr⟩,bZ⟩;have hW2:=ap5 hW2 Rr.si hd;have Rr:=apV Rr (by omega) Q7 (by omega) (by omega) hd;obtain⟨p2,q2,_,_,_,_,rfl,Re,EK,hN2,_⟩:=hr.ex;have rO:=rO.trans EK;have hc2:N2.c=vA 2:=Rr.f.1;have kV:N2.n=n:=Rr.f.2.2;obtain⟨lv,pr',ps,pf,pb,pl,R,hO2⟩:=hN2.op Re;obtain⟨bl,lv2,sv,AF⟩:=hO2.sr
  first|refine fU (yg ((bZ.sub (a:=j2)) _ _ hO2.o)) ?_ |refine bt (yg ((bZ.sub (a:=j2)) _ _ hO2.o)) ?_
  have hll:=Rr.i.ll;have hgl:=Rr.i.gl;refine aP (bi.frame bZ (xQ AF (by omega) (λx hx=>by have:=pj (hgl x hx).r;omega))) ?_;rintro _ m3⟨j3,⟨v3,p3,rfl,hj3,tX⟩,dy⟩;obtain⟨R3,hR3,hK3⟩:=tX;have aBv:=hK3.len;obtain⟨a3,c3,rfl⟩:=hR3.shape;have azo:cL q2 j3:=(Re.sub (a:=q2)).trans (hj3.sub (a:=j2));refine .mk (ι:=Nat) (λk=>R3.length-k) (λk mm=>k<=R3.length/\∃pr',aq mm [j3,pr']/\jY pr' br (vA 2)) (λk=>[(0,.c (i64 n)),(1,.c (.v (.slice (some ⟨b5,o5,none⟩) O.length cv))),(5,.c (cx X.a)),(7,.c (fy br)),(9,.c (i64 i)),(10,.c (.v (.slice a3 R3.length c3))),(11,.c (i64 k))]) (λ_=>[]) 0 ⟨by omega,_,dy,hR2⟩ ?_ ?_
  ·exact Cr
  rintro k m5⟨hk,pr5,eD,hR5⟩;apply bI<;>intro h
  ·have Xd:k<R3.length:=by have:=ah h;omega
   obtain⟨b6,o6,c6,e6,hg6⟩:=hR3.real Xd;injection e6 with e61 _ e63;subst e61 e63;have hg6:=(hg6 k Xd).sub ((hj3.sub (a:=p3)).trans (eD.sub (a:=j3)));have hx:=hK3.je k Xd (by omega);have alp:=hx.1;have JR:=fZ (j:=0) hg6 rfl;have hh:=hW2.k (N2.s.L[k]'(by omega)) (aO (by omega));have Ad:=(hgl (N2.s.L[k]'(by omega)) (aO (by omega))).key.2;rw[hc2,kV]at hh;generalize N2.s.L[k]'(by omega)=x at*
   repeat refine xS ?_
   refine xL (JR) ?_;refine aP (tN (n:=n) (k:=R3[k].1) (hg.sub (rO.trans azo)).j8 (by decide) (eD.ir [1,0]) hR5 (by rw[alp];omega)) ?_;rintro _ m6⟨pr6,rfl,gC,hR6⟩;conv=>whnf
   rw[alp,hh];refine xN ?_;refine⟨k+1,⟨by omega,pr6,gC.ir [1,0],hR6⟩,by omega,?_⟩;exact Cr
  have eD:aq m5 [j2,pr5]:=(aq.tQ eD hj3).ir [1,2];refine aP (bi.frame eD (Lh Re hN2 (by have:=Rr.z.o;omega))) ?_;rintro _ m6⟨j4,⟨v4,p4,q4,R4,rfl,hj4,Zx,hN4,hR4,hm4,azV⟩,gC⟩;have hO4:=an3 hW2
  have aEX:R4.length<=300:=by
   have h1:=be List.length hm4;rw[aH]at h1;have h2:=aoe N2;have h3:=Rr.z.o;omega
  rw[<-hm4]at hO4;obtain⟨a4,c4,rfl⟩:=hR4.shape;have aoM:cL q4 j4:=hj4.sub (a:=q4);refine .mk (ι:=Nat) (λk=>R4.length-k) (λk mm=>k<=R4.length/\∃pr',aq mm [j4,pr']/\jY pr' br (vA 2)) (λk=>[(0,.c (i64 n)),(1,.c (.v (.slice (some ⟨b5,o5,none⟩) O.length cv))),(5,.c (cx X.a)),(7,.c (fy br)),(9,.c (i64 i)),(12,.c (.v (.slice a4 R4.length c4))),(13,.c (i64 k))]) (λ_=>[]) 0 ⟨by omega,_,gC,hR5⟩ ?_ ?_
  ·exact Cr
  rintro k m7⟨hk,pr7,iU,hR7⟩;apply bI<;>intro h;rotate_left
  ·refine⟨i+1,⟨by omega,pr7,j4,p4,q4,N2.AA,iU,hj4,hR7,rO.trans Zx,hN4,aro (SO Rr) (by omega) (by omega) (by omega),aiK hW2⟩,by omega,?_⟩
   exact Cr
  have Xd:k<R4.length:=by have:=ah h;omega
  obtain⟨b6,o6,c6,e6,hg6⟩:=hR4.real Xd;injection e6 with e61 _ e63;subst e61 e63;have hq7:∀{mm pr'},aq mm [j4,pr']->cL q4 mm:=λh=>aoM.trans (h.sub (a:=j4));have hg6:=hg6 k Xd;have hMk:=azV R4[k] (aO Xd);have hOk:=hO4 R4[k].1 (aV.2 ⟨R4[k],aO Xd,rfl⟩);rw[hc2,kV]at hOk;generalize R4[k]=r at*;obtain⟨x,s⟩:=r;simp only at hMk hOk;have oY:∀{mm pr':aD} (jj:Nat) (u:Value),aq mm [j4,pr']->(Yc.enc (x,s))[jj]?=some u->gR mm b6 (o6+k*40+jj)=some u:=λjj u hs hu=>fZ (hg6.sub (hq7 hs)) hu
  repeat refine xS ?_
  refine xL (oY 1 _ iU rfl) ?_;apply bI<;>intro h
  ·exact absurd hOk.f (by simpa using h)
  repeat refine xS ?_
  refine xL (oY 0 _ iU rfl) ?_;apply bI<;>intro h
  ·have h7:x.kind≠7:=by simpa using h
   obtain⟨F2,lE⟩:=hOk.p h7
   have hpr:0<=x.part/\x.part<=7:=by
    refine Decidable.byContradiction λhc=>?_;unfold l4 at F2;rw[Zh (by omega)]at F2;cases F2
   repeat refine xS ?_
   refine xL (oY 4 _ iU rfl) ?_;refine aP (Bf (n:=n) (part:=x.part) (hg.sub ((rO.trans Zx).trans aoM)).j8 (by decide) (iU.ir [1,0]) hR7 (by omega)) ?_;rintro _ m8⟨pr8,rfl,k8,hR8,_⟩
   try refine⟨λ_ h=>(by cases h),?_⟩
   have k8:aq m8 [j4,pr8]:=k8.ir [1,0];rw[F2];refine xN ?_
   repeat refine xS ?_
   refine xL (oY 2 _ k8 rfl) ?_
   repeat refine xS ?_
   refine xL (oY 4 _ k8 rfl) ?_;refine aP (Bf (n:=x.qe) (part:=x.part) (hg.sub ((rO.trans Zx).trans aoM)).j8 (by decide) (k8.ir [1,0]) hR8 (by omega)) ?_;rintro _ m9⟨pr9,rfl,zv,hR9,_⟩
   try refine⟨λ_ h=>(by cases h),?_⟩
   have zv:aq m9 [j4,pr9]:=zv.ir [1,0];rw[lE];refine xN ?_
   repeat refine xS ?_
   refine xL (oY 0 _ zv rfl) ?_;apply bI<;>intro h
   ·exact absurd (by simpa using h) h7
   refine⟨k+1,⟨by omega,pr9,zv,hR9⟩,by omega,?_⟩;exact Cr
  ·have h7:x.kind=7:=by simpa using h
   obtain⟨d,LW,hd2⟩:=hOk.k h7
   repeat refine xS ?_
   refine xL (oY 0 _ iU rfl) ?_;apply bI<;>intro h;rotate_left
   ·exact absurd h7 (by simpa using h)
   repeat refine xS ?_
   refine xL (oY 2 _ iU rfl) ?_
   repeat refine xS ?_
   refine xL (oY 39 _ iU (auX x s)) ?_;have Vf:=hMk.ca;obtain⟨R8,hR8,hK8⟩:=Vf;have aBl:=hK8.len;have hx8:=hK8.je 0 (by rw[aBl,LW];simp) (by rw[LW];simp);have wz:x.ca.length=1:=by rw[LW];rfl
   simp only[LW,List.getElem_cons_zero]at hx8;obtain⟨b8,o8,c8,e8,hg8⟩:=hR8.real (i:=0) (by rw[aBl,wz];decide);have hg8:=hg8 0 (by rw[aBl,wz];decide);generalize bM:s.c.1=sa at*;generalize bZ:s.c.2=sc at*;injection e8 with e81 _ e83;subst e81 e83;rw[wz];refine⟨⟨by omega,by decide⟩,?_⟩;refine⟨_,fZ (j:=0) (hg8.sub (hq7 iU)) rfl,rfl,?_⟩;refine aP (tN (n:=x.qe) (hg.sub ((rO.trans Zx).trans aoM)).j8 (by decide) (iU.ir [1,0]) hR7 (by rw[hx8.k];have:=afQ hd2;omega)) ?_;rintro _ m8⟨pr8,rfl,k8,azR⟩
   try refine⟨λ_ h=>(by cases h),?_⟩
   have k8:aq m8 [j4,pr8]:=k8.ir [1,0];rw[hx8.k,hd2];refine xN ?_;refine⟨k+1,⟨by omega,pr8,k8,azR⟩,by omega,?_⟩;exact Cr
end Go.E.Y
namespace Go.E
theorem Yg{H:Type}{enc:TypeId×Value->H}{P:Program}{w:World}{gM:Nat}{qg:Nat->Bool}{DR:Bool}{kJ:Nat}{t e:TypeId}{cs:List Value}{n:Nat}{k:IntKind}{zs:List Int}{p:List MemPlace}(ht:P.underlying t=some (.array n e))(he:P.underlying e=some (.int k))(hc:P.cellsOf e=1)(hct:P.cellsOf t=n)
  (h:DataW.trod enc P w gM qg DR kJ t cs=some (.agg (zs.map λz=>.lit (.int k z)),p)):cs=zs.map λz=>Value.int k z:=by
 obtain⟨xs,m,_,ex,hl,hn,xz⟩:=DataW.trod_array ht h;rw[hct]at hl;have e1:xs.map (·.1)=zs.map λz=>.lit (.int k z):=(DataW.agg.inj (MF ex).1).symm;have hz:zs.length=n:=by have:=be List.length e1;simp at this;omega
 refine List.ext_getElem? λi=>?_;by_cases hi:i<n
 ·have h1:=xz i hi
  rw[hc,eG,az (by omega)]at h1;obtain⟨z,f1,f2,_⟩:=DataW.trod_int he h1;have e4:(xs.map (·.1))[i]?=(zs.map λz=>(DataW.lit (.int k z):DataW H))[i]?:=by rw[e1]
  rw[cj,cj,az (by omega:i<xs.length),az (by omega:i<zs.length),f2]at e4;have FN:z=zs[i]:=by simpa using e4
  have h0:((cs.drop i).take 1)[0]?=some (.int k z):=by rw[f1];rfl
  rw[cj,az (by omega:i<zs.length),<-FN];simpa using h0
 ·rw[jr (by omega),jr (by simp;omega)]
theorem Ge{H:Type}{enc:TypeId×Value->H}{P:Program}{w:World}{gM:Nat}{qg:Nat->Bool}{kJ:Nat}{t:TypeId}{cs:List Value}{ms:_}{name:String}{d:DataW H}{p:List MemPlace}(ht:P.underlying t=some (.interface ms))
  (h:DataW.trod enc P w gM qg false kJ t cs=some (.iface name d,p)):∃u v,cs=[.iface u v]:=by
 cases kJ with
 |zero=>simp[DataW.trod]at h
 |succ m=>
  unfold DataW.trod at h;rw[ht]at h
  split at h<;>simp_all
theorem F8{P:Program}{W:World}{name:String}{g:Nat}{cs:Array Value}(hg:P.globalNamed name=some g)(h:W.var? P name=some cs):∃T fr,W.heap[g]?=some (.cells cs T fr):=by
 unfold World.var? at h;rw[hg]at h;simp only[Option.bind_some]at h
 split at h
 ·rename_i arr T fr hb
  injection h with h;subst h
  exact⟨T,fr,hb⟩
 ·cases h
end Go.E
namespace Go.E.Y
open Go.Proofs
theorem ad5{W:World}(h:laidMetH Tryz.prog [("math/bits.deBruijn32tab",Go.Proofs.YtikipjbkjcefbaaGreatDoor.Rows.laid_math_bits_deBruijn32tab),("math/bits.deBruijn64tab",Go.Proofs.YtikipjbkjcefbaaGreatDoor.Rows.laid_math_bits_deBruijn64tab),("internal/strconv.uint64pow10",Go.Proofs.YtikipjbkjcefbaaGreatDoor.Rows.laid_internal_strconv_uint64pow10),("strconv.ErrRange",Go.Proofs.YtikipjbkjcefbaaGreatDoor.Rows.laid_strconv_ErrRange),("strconv.ErrSyntax",Go.Proofs.YtikipjbkjcefbaaGreatDoor.Rows.laid_strconv_ErrSyntax)] W):jZ (λb=>W.heap[b]?):=by
 rw[MakeChecks.laidMetH_plain _ _ _ (by kernel_rfl)]at h;obtain⟨ps,hl,_,_⟩:=h;obtain⟨g1,t1,c1,f1,p1,q1,Ag,Fa,lZ,LW,hl,_⟩:=hl;obtain⟨g2,t2,c2,f2,p2,q2,hg2,JI,lD,hd2,hl,_⟩:=hl;obtain⟨g3,t3,c3,f3,p3,q3,hg3,W5,tX,hd3,hl,_⟩:=hl;obtain⟨g4,t4,c4,f4,p4,q4,hg4,W4,QZ,hd4,hl,_⟩:=hl;obtain⟨g5,t5,c5,f5,p5,q5,hg5,W3,hv5,hd5,hl,_⟩:=hl;obtain rfl:=eL (aqU.symm.trans hg3);obtain rfl:=eL (aqW.symm.trans hg4);obtain rfl:=eL (aqV.symm.trans hg5);obtain⟨T3,r3,fN⟩:=F8 hg3 tX;obtain⟨T4,r4,hh4⟩:=F8 hg4 QZ;obtain⟨T5,r5,hh5⟩:=F8 hg5 hv5;obtain rfl:=eL ((show(Tryz.prog.globals[1]?).map (·.type)=some 518 by kernel_rfl).symm.trans W5);obtain rfl:=eL ((show(Tryz.prog.globals[3]?).map (·.type)=some 386 by kernel_rfl).symm.trans W4);obtain rfl:=eL ((show(Tryz.prog.globals[2]?).map (·.type)=some 386 by kernel_rfl).symm.trans W3);have k3:=Yg (zs:=Lib.pow10Tab) Tryz.underlying518 Tryz.underlying31 (by kernel_rfl) (by kernel_rfl) hd3;obtain⟨u4,w4,k4⟩:=Ge Tryz.underlying386 hd4;obtain⟨u5,w5,k5⟩:=Ge Tryz.underlying386 hd5;refine⟨⟨u5,w5,T5,r5,?_⟩,⟨u4,w4,T4,r4,?_⟩,⟨T3,r3,?_⟩⟩
 ·rw[hh5,<-iw (xs:=c5),k5]
 ·rw[hh4,<-iw (xs:=c4),k4]
 ·rw[fN,<-iw (xs:=c3),k3]
end Go.E.Y
