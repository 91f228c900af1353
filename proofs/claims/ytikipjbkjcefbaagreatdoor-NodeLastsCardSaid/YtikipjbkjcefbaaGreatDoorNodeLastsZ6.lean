import Derived.Test.YtikipjbkjcefbaaGreatDoorNodeLastsZ5
import Derived.Test.YtikipjbkjcefbaaGreatDoorCards
import Derived.Lay
import Derived.LaidLaws
import Derived.MakeChecks
set_option maxHeartbeats 40000000
set_option maxRecDepth 100000
set_option linter.unusedVariables false
namespace Go.E.Y
open Go.Proofs
variable {qt:Int}{N N':fw}{j k e:Nat}
structure V4(bQ:Int)(s:kl):Prop where
 r:gx s=true
 (b:s.gD.gM=1/\s.gD.cap=4/\s.gD.dG=3)
 (t:s.gD.gI<=3)
 d:s.Oo<=bQ+4
theorem aqT{w:Bk}(h:w.cap=4):w.H6<=4:=by
 unfold Bk.H6;omega
def mW(bQ:Int)(s:kl):Int:=(3-s.gD.gI)*5+max (s.Oo-bQ) 0
variable{bQ n:Int}{s:kl}
theorem Kn(h:V4 bQ s){l:List Int}(hr:gx (vT s n l bQ)=true):V4 bQ (vT s n l bQ):=by
 have hw:=(jt.1 h.r).2.2.2.2.2.2.2.1;have e:s.gD.lR={s.gD with gI:=0}:=by unfold Bk.lR;rw[aC hw]
 have hg:=aqT (w:=s.gD.lR) (by rw[e];exact h.b.2.1);refine⟨hr,?_,?_,?_⟩
 ·show s.gD.lR.gM=1/\s.gD.lR.cap=4/\s.gD.lR.dG=3
  rw[e];exact h.b
 ·show s.gD.lR.gI<=3
  grind
 ·show bQ+s.gD.lR.H6<=bQ+4
  omega
theorem aa6(h:V4 bQ s)(hn:0<=bQ/\bQ<1000000)(hr:1<=s.round)(hl:0<(kX s (bQ+1)).1.round):V4 (bQ+1) (kX s (bQ+1)).1/\mW (bQ+1) (kX s (bQ+1)).1+1<=mW bQ s/\0<=mW bQ s:=by
 have hR:=TY h.r (bQ:=bQ+1) (by omega);obtain⟨g1,g2,g3,g4,g5,g6,g7,g8,g9⟩:=jt.1 h.r;obtain⟨b1,b2,b3,b4⟩:=Bk.lj.1 g8;have hb:=h.b;have ht:=h.t;have hd:=h.d;have h0:0<=mW bQ s:=by unfold mW;omega
 have xr:ql (bQ+1)=true:=B6.2 (by omega);unfold kX at hl hR⊢
 split at hl
 ·rename_i h1
  rw[aC h1]at hR⊢
  have bH:bQ+1<s.Oo:=by
   grind
  refine⟨⟨h.r,hb,ht,by show s.Oo<=bQ+1+4;omega⟩,?_,h0⟩
  show mW (bQ+1) s+1<=mW bQ s
  unfold mW;omega
 ·rename_i h1
  rw[if_neg h1]at hR⊢;simp only[not_or]at h1
  split at hl
  ·exact absurd hl (by show ¬(0:Int)<0;omega)
  ·rename_i h2
   rw[if_neg h2]at hR⊢
   have Ta:¬s.gD.dG<=s.gD.gI:=by
    intro hc
    apply h2
    unfold Bk.PA
    grind
   have en:s.gD.next={s.gD with gI:=s.gD.gI+1}:=by
    unfold Bk.next
    grind
   have hg:=aqT (w:=s.gD.next) (by rw[en];exact hb.2.1);have wA:=(DV s.gD.next).1;refine⟨⟨hR,?_,?_,?_⟩,?_,h0⟩
   ·grind
   ·grind
   ·grind
   ·have et:s.gD.next.gI=s.gD.gI+1:=by rw[en]
    show(3-s.gD.next.gI)*5+max (bQ+1+s.gD.next.H6-(bQ+1)) 0+1<=(3-s.gD.gI)*5+max (s.Oo-bQ) 0
    omega
structure WI(N:fw):Prop where
 w:∀s∈N.l,V4 N.bQ s
theorem WI.eq(h:WI N)(hn:N'.bQ=N.bQ)(hl:N'.l=N.l):WI N':=⟨λs hs=>by rw[hn];rw[hl]at hs;exact h.w s hs⟩
theorem WI.box{n:Nat}(h:WI N)(hb:y7 N N' n):WI N':=h.eq (by rw[hb.e]) (by rw[hb.e])
theorem WI.fT(h:WI N)(qt:Int)(L:List Kd):WI (N.fT qt L).1:=h.eq (by rw[vW]) (by rw[vW])
theorem Wg(h:WI N)(hS:SI N)(hn:0<=N.bQ/\N.bQ<1000000):WI (lO N).1/\∀b:Int,(∀s∈N.l,mW N.bQ s<=b)->∀s∈(lO N).1.l,mW (lO N).1.bQ s<=b-1/\0<=b:=by
 have hb:=vM (N.bQ+1) N.l (N.at (N.bQ+1),[]);have h2:=FC (N.bQ+1) N.l (N.at (N.bQ+1),[]);rw[bV]at h2;have e:=hb.e
 have eT:(lO N).1={(N.l.foldl (Au (N.bQ+1)) (N.at (N.bQ+1),[])).1 with l:=(N.l.foldl (Au (N.bQ+1)) (N.at (N.bQ+1),[])).2}:=by
  unfold lO;rw[if_neg (by omega)]
 rw[eT];generalize N.l.foldl (Au (N.bQ+1)) (N.at (N.bQ+1),[])=Z at*;obtain⟨M,l⟩:=Z;simp only at h2 e;subst h2;have en:M.bQ=N.bQ+1:=by rw[e];rfl
 have key:∀t∈(N.l.map λs=>(kX s (N.bQ+1)).1).filter λt=>decide (0<t.round),∃s∈N.l,V4 (N.bQ+1) t/\mW (N.bQ+1) t+1<=mW N.bQ s/\0<=mW N.bQ s:=λt ht=>by
  obtain⟨ht,hr⟩:=cH.1 ht;obtain⟨s,hs,rfl⟩:=aV.1 ht;exact⟨s,hs,aa6 (h.w s hs) hn (hS.ok s hs).r (ah hr)⟩
 refine⟨⟨λt ht=>?_⟩,λb qB t ht=>?_⟩
 ·obtain⟨s,_,h1,_⟩:=key t ht
  show V4 M.bQ t
  rw[en];exact h1
 ·obtain⟨s,hs,_,h3,h4⟩:=key t ht
  have:=qB s hs
  show mW M.bQ t<=b-1/\0<=b
  rw[en];omega
theorem afU(h:WI N)(hw:N.w=Rl)(hn:0<=N.bQ/\N.bQ<1000000)(d:Int):WI (oC N d).1:=by
 unfold oC;split
 ·exact h
 split
 ·exact h
 split
 ·exact h
 rename_i h3;have h3:(qs N d).2=0:=by simpa using h3
 have hx:V4 N.bQ (qs N d).1:=by
  unfold qs uD at h3⊢
  split at h3
  ·rename_i h1
   rw[aC h1];rw[aB]at h1;have hr:=h1.2;obtain⟨g1,g2,g3,g4,g5,g6,g7,g8,g9⟩:=jt.1 hr;have hg:=DV N.w.lR;have h0:V4 N.bQ ⟨N.dO+1,N.n,(lV (kw N.c N.n) d).1,(lV (ng N.c N.n (lV (kw N.c N.n) d).1) (d/65536)).1,1,[],N.w,0⟩:=⟨hr,by rw[hw];exact⟨rfl,rfl,rfl⟩,by rw[hw];show(0:Int)<=3;omega,by show(0:Int)<=N.bQ+4;omega⟩;refine Kn h0 (jt.2 ⟨g1,g2,g3,g4,g5,by show 0<=(1:Int)/\(1:Int)<=3;omega,rfl,PP g8,by show 0<=N.bQ+N.w.lR.H6/\N.bQ+N.w.lR.H6<=_;omega⟩)
  ·cases h3
 generalize (qs N d).1=x at*
 show WI ((N.add x).CR x)
 refine WI.box ?_ (rp _ _);refine⟨λs hs=>?_⟩;rcases aR.1 (show s∈N.l++[x] from hs)with hs|hs
 ·exact h.w s hs
 ·rw[aL.1 hs];exact hx
variable{L:List Kd}
theorem aa8{y:gX}(h:V4 bQ s)(hr:1<=s.round)(hn:0<=bQ/\bQ<=1000000)(h2:(jk s L y bQ).2=true)(h0:¬(jk s L y bQ).1.round=0):V4 bQ (jk s L y bQ).1:=by
 have hR:=TZ h.r hr hn h2;unfold jk at hR h2 h0⊢;by_cases k1:s.round=1/\y.kind=4
 ·rw[aC k1]at h0;exact absurd rfl h0
 rw[if_neg k1]at hR h2 h0⊢;by_cases k2:s.round=3/\y.kind=6/\y.pl=s.pl
 ·rw[aC k2]at h0;exact absurd rfl h0
 rw[if_neg k2]at hR h2 h0⊢;by_cases k3:y.kind≠5\/(s.round≠1/\s.round≠2)\/y.pl≠atF s
 ·grind
 rw[if_neg k3]at hR h2 h0⊢;by_cases k4:z1 (lN L s.part) y.pl y.dg=[]
 ·rw[aC k4]at h0;exact absurd rfl h0
 rw[if_neg k4]at hR⊢;exact Kn h hR
theorem afT(h:WI N)(hS:SI N)(hn:0<=N.bQ/\N.bQ<1000000)(qt:Int)(y:gX):WI (vf qt N y).1:=by
 unfold vf;split
 ·exact h
 rename_i i e;have hi:=ae7 e;have NU:N.l.getD i oW=N.l[i]:=by rw[aI,az hi];rfl
 rw[NU];have hx:=hS.ok N.l[i] (aO hi);have hw:=h.w N.l[i] (aO hi);have hp:=h.fT qt (gn N.s.L y.ca).2;have ho:=vW qt (gn N.s.L y.ca).2 N;unfold DS;split
 ·exact h
 rename_i he;have h2:=Rg (s:=N.l[i]) (L:=N.s.L) (y:=y) (bQ:=N.bQ) (by simpa using he);have hwk:=aa8 (L:=N.s.L) (y:=y) hw hx.r (by omega) h2;split
 ·exact h
 split
 ·exact hp
 generalize (jk N.l[i] N.s.L y N.bQ).1=x' at*;generalize (N.fT qt (gn N.s.L y.ca).2).1=M at*;have en:M.bQ=N.bQ:=by rw[ho]
 split
 ·refine⟨λs hs=>?_⟩
  show V4 M.bQ s
  rw[en];rcases aR.1 (show s∈N.l.take i++N.l.drop (i+1) from hs)with hs|hs
  ·exact h.w s (bX hs)
  ·exact h.w s (fk hs)
 ·rename_i hr0
  show WI (fw.CR _ _)
  refine WI.box ?_ (rp _ _);refine⟨λs hs=>?_⟩
  show V4 M.bQ s
  rw[en];rcases fa (show s∈N.l.set i x' from hs)with hs|rfl
  ·exact h.w s hs
  ·exact hwk hr0
theorem abb(h:WI N)(hS:SI N)(hn:0<=N.bQ/\N.bQ<1000000)(qt:Int)(y:gX):WI (mK qt N y).1:=by
 unfold mK;split
 ·exact h
 split
 ·exact h
 split
 ·unfold qc
  split
  ·exact h
  split
  ·exact h.fT qt _
  ·exact(h.fT qt (tC N.s.L y).2.1).eq rfl rfl
 split
 ·split
  ·unfold A9
   dsimp only;split
   ·exact h.eq rfl rfl
   ·exact h
  ·exact h
 ·exact afT h hS hn qt y
variable{y:XL}{x:vF}
theorem aiM(h:WI N)(hS:SI N)(hw:N.w=Rl)(hn:0<=N.bQ/\N.bQ<1000000)(hd:y4 qt N x N' y):WI N':=by
 unfold y4 at hd
 split at hd
 ·obtain⟨rfl,_⟩:=hd;exact h
 split at hd
 ·have e1:N'=(lW qt N x).1:=by rw[<-hd]
  rw[e1];unfold lW;split
  ·exact h
  split
  ·exact h
  split
  ·exact h
  ·exact WI.box (N:=(N.put (x.key,(Jc (gh N.s.L x.key) N.n x.op).1)).nX ⟨x.id,0,[]⟩) (h.eq rfl rfl) (rL _ _ _)
 split at hd
 ·have e1:N'=(qj N x).1:=by rw[<-hd]
  rw[e1];unfold qj;split
  ·exact h
  ·exact h.eq rfl rfl
 split at hd
 ·rw[hd.1];exact(Wg h hS hn).1
 split at hd
 ·rw[hd.1];exact afU h hw hn x.dr
 split at hd
 ·rw[hd.1];exact abb h hS hn qt x.AB
 split at hd
 ·obtain⟨kc,_,rfl,_⟩:=hd
  exact h.eq rfl rfl
 split at hd
 ·rw[hd.1];exact h.eq rfl rfl
 ·obtain⟨A',oK,kc,rfl,_,_⟩:=hd
  exact h.eq rfl rfl
variable {qt:Int}{N N':fw}{j k e:Nat}
structure Al(qt r n:Int)(j k e:Nat)(N:fw):Prop where
 i:pO qt j k N
 (f:N.c=vA r/\N.w=Rl/\N.n=n)
 si:SI N
 z:SZ e N
 w:WI N
variable{r:Int}
theorem Al.t(h:Al qt r n j k e N)(hr:1<=r/\r<=3)(hn:1<=n/\n<=3):NdT N:=
 ⟨by rw[h.f.1];exact Rc.lj.2 ⟨by simp[vA],by simp[vA],by simp[vA];omega⟩,by rw[h.f.2.1];decide,by rw[h.f.2.2,h.f.1];exact⟨hn.1,by simp[vA];omega⟩⟩
theorem Al.Yf(h:Al qt r n j k e N)(hn:1<=n/\n<=3):N.l.length<=2:=aki h.si (by rw[h.f.2.2];exact hn) (by rw[h.f.1];rfl)
theorem Al.nz(h:Al qt r n j k e N)(hn:1<=n/\n<=3)(he:e<=90):NdZ N:=
 ⟨by have:=h.z.o;omega,by have:=h.z.an;omega,by have:=h.Yf hn;omega,h.z.bQ.1,by have:=h.z.dO;omega⟩
theorem Ml(h:Al qt r n j k e N)(hr:1<=r/\r<=3)(hn:1<=n/\n<=3)(hj:j<=1260)(he:e<=90)(hx:ON x)(hd:y4 qt N x N' y):Al qt r n (j+31) (k+2) (e+1) N':=by
 have hT:=h.t hr hn;have h1:=aoU h.i hT (by omega) hx hd;refine⟨?_,?_,aiY h.si hd,aiQ h.z (by rw[h.f.1];show 0<=r/\r<=3;omega) (by have:=h.Yf hn;omega) hd,aiM h.w h.si h.f.2.1 (by have:=h.z.bQ;omega) hd⟩
 ·exact h1.i
 ·rw[h1.f.c,h1.f.w,h1.f.n];exact h.f
theorem SS{ns:Nat}(h:pO qt 0 2 (N0 r n ns)):Al qt r n 0 2 0 (N0 r n ns):=
 ⟨h,⟨rfl,rfl,rfl⟩,⟨(λs hs=>by cases hs),List.Pairwise.nil⟩,⟨aW _,aW _,⟨C0 _,C0 _⟩,⟨C0 _,C0 _⟩⟩,⟨(λs hs=>by cases hs)⟩⟩
variable {qt:Int}{N N':fw}{y:XL}{x:vF}{j k:Nat}
variable {qt:Int}{N N':fw}{y:XL}{x:vF}{j k:Nat}
variable {qt:Int}{N N':fw}{y:XL}{x:vF}{j k:Nat}
theorem avf{c:Ct}{o:XM}(h:(Jc c n o).2.2=0):LeC c (Jc c n o).1:=by
 have key:∀i,c.1.getD i 0<=(wR c.1 n (tv c.1 n).1).getD i 0:=λi=>by
  unfold wR;split
  ·rw[aI,aI (l:=List.set _ _ _),List.getElem?_set]
   split
   ·rename_i e
    subst e;split
    ·simp only[jA]
     rw[<-aI];omega
    ·rename_i h
     rw[jr (by omega)];exact C0 _
   ·exact C0 _
  ·exact C0 _
 unfold Jc at h⊢
 split at h
 ·rename_i h1
  rw[aC h1]
  split at h
  ·cases h
  ·rename_i h2
   rw[if_neg h2];exact⟨λ_=>C0 _,λe he _=>(cH.1 he).1⟩
 rename_i h1;rw[if_neg h1]
 split at h
 ·cases h
 rename_i h2;rw[if_neg h2]
 split at h
 ·cases h
 rename_i h3;rw[if_neg h3];refine⟨key,λe he hd=>?_⟩;have he:e∈nY (nj o c.2++[(o.2.1,n,(tv c.1 n).1,o.2.2)]):=he;unfold nY at he;rw[adY]at he;rcases aR.1 he with he|he
 ·exact(cH.1 he).1
 ·exfalso
  rw[aL.1 he]at hd;unfold Bi kz at hd;rw[aB,bA]at hd;have h4:=hd.2;unfold tv at h4 h2
  split at h4
  ·rename_i h5
   rw[aC h5]at h2;exact absurd (by decide) h2
  ·simp only at h4
   omega
variable{z:Kd}
theorem ad0(h:s6 L)(hz:z∈L):vj L z.1=some z.2:=by
 unfold vj
 have h1:(L.find? λx=>decide (x.1=z.1))=some z:=by
  induction L with
  |nil=>cases hz
  |cons x L ih=>
   obtain⟨p1,p2⟩:=bh.1 h;rw[iZ];rcases aU.1 hz with rfl|hz
   ·simp
   ·have:¬x.1=z.1:=PI (p1 z hz)
    simp only[this,aaJ];exact ih p2 hz
 rw[h1];rfl
theorem afK(h:s6 L)(hz:z∈L):gh L z.1=z.2:=by rw[gh,ad0 h hz];rfl
theorem ahQ{k:ByteArray}(h:∀x∈L,x.1≠k):vj L k=none:=by
 unfold vj
 grind
theorem ad1:∀{T L:List Kd},(T.map (·.1)).Nodup->∀k,vj (iy L T) k=(vj T k).or (vj L k)
 |[],L,_,k=>by simp[iy,vj]
 |z::T,L,h,k=>by
  rw[aZ,nU]at h;have e:iy L (z::T)=iy (iz L z.1 z.2) T:=rfl;rw[e,ad1 h.2 k,aaY];by_cases hk:z.1=k
  ·have h1:vj T k=none:=ahQ λx hx e=>h.1 (aV.2 ⟨x,hx,e.trans hk.symm⟩)
   rw[h1,aC hk];unfold vj;rw[iZ];simp[hk]
  ·rw[if_neg hk]
   congr 1
   unfold vj;rw[iZ (a:=z)];simp[hk]
structure MF(L:List Kd)(s:List Kd×List Kd):Prop where
 f:∀k,vj s.1 k=(vj s.2 k).or (vj L k)
 le:LeL L s.1
 t:s6 s.2
 a:∀x∈s.1,jg x
theorem MF.step{s:List Kd×List Kd}(h:MF L s){x:Kd}(hx:jg x):MF L (ou s x):=by
 unfold ou;split
 ·rename_i ht
  have h0:=qo h.a x.1;have h1:=xH (k:=x.1) (x:=gh s.1 x.1) (y:=x.2) h0 hx ht.1;refine⟨λk=>?_,h.le.with ((h.le x.1).trans (ajA h0.u hx.u ht.1)),Kr h.t,λy hy=>?_⟩
  ·rw[aaY,aaY]
   split
   ·rfl
   ·exact h.f k
  ·rcases uM hy with hy|rfl
   ·exact h.a y hy
   ·exact h1
 ·exact h
theorem auY{C:List Kd}(hL:∀x∈L,jg x)(hC:∀x∈C,jg x):MF L (gn L C):=by
 have key:∀(C:List Kd) (s:List Kd×List Kd),(∀x∈C,jg x)->MF L s->MF L (C.foldl ou s):=λC=>by
  induction C with
  |nil=>intro s _ h;exact h
  |cons x C ih=>
   intro s hx h;exact ih (ou s x) (λy hy=>hx y (by simp[hy])) (h.step (hx x (by simp)))
 exact key C (L,[]) hC ⟨λk=>rfl,.refl _,adl,hL⟩
theorem MF.up{s:List Kd×List Kd}(h:MF L s):∀z∈s.2,LeC (gh L z.1) z.2:=λz hz=>by
 have h1:=h.le z.1;have h2:gh s.1 z.1=z.2:=by rw[gh,h.f,ad0 h.t hz];rfl
 rw[h2]at h1;exact h1
def jf.pre(s:jf)(i:Nat):List Kd:=iy [] (s.P++s.R.take i)
theorem jf.adv(s:jf):s.pre s.R.length=s.L:=by unfold jf.pre jf.L;rw[aJ]
theorem jf.aoc(s:jf)(i:Nat):s6 (s.pre i):=rJ adl _
def ahw(L:List Kd)(x:gX):Prop:=∀c∈x.ca,LeC c.2 (gh L c.1)/\ki c
structure LA(N:fw):Prop where
 up:∀i j,i<=j->j<=N.s.R.length->LeL (N.s.pre i) (N.s.pre j)
 b:∀r∈N.B.dE,∃i:Nat,r.2=(i:Int)/\i<=N.s.R.length/\ahw (N.s.pre i) r.1/\dR r.1=true
structure Ext(s s':jf):Prop where
 u:s'.cY=s.cY
 p:s'.P=s.P
 r:∃T,s'.R=s.R++T
theorem Ext.refl(s:jf):Ext s s:=⟨rfl,rfl,[],by simp⟩
variable{s:jf}
theorem Ext.trans{t u:jf}(h:Ext s t)(h':Ext t u):Ext s u:=by
 obtain⟨T,hT⟩:=h.r;obtain⟨T',hT'⟩:=h'.r;exact⟨h'.u.trans h.u,h'.p.trans h.p,T++T',by rw[hT',hT,aX]⟩
theorem Ext.put(s:jf)(x:Kd):Ext s (s.put x):=⟨rfl,rfl,[x],rfl⟩
theorem Ext.of{s':jf}(h:s'=s):Ext s s':=by rw[h];exact .refl _
structure LK(N N':fw):Prop where
 a:LA N'
 e:Ext N.s N'.s
theorem LK.refl(h:LA N):LK N N:=⟨h,.refl _⟩
theorem LK.trans{M:fw}(h:LK N N')(h':LK N' M):LK N M:=⟨h'.a,h.e.trans h'.e⟩
theorem LA.of(h:LA N)(hP:N'.s.P=N.s.P)(hR:N'.s.R=N.s.R)(hb:N'.B.dE=N.B.dE):LA N':=by
 have e:∀i,N'.s.pre i=N.s.pre i:=λi=>by unfold jf.pre;rw[hP,hR]
 refine⟨λi j h1 h2=>by rw[e,e];rw[hR]at h2;exact h.up i j h1 h2,λr hr=>?_⟩;rw[hb]at hr;obtain⟨i,h1,h2,h3⟩:=h.b r hr
 grind
theorem LA.same(h:LA N)(hs:N'.s=N.s)(hb:N'.B.dE=N.B.dE):LK N N':=⟨h.of (by rw[hs]) (by rw[hs]) hb,.of hs⟩
theorem LA.send(h:LA N){z:gX}(hz:ahw N.s.L z):LK N (N.send z):=by
 refine⟨⟨h.up,λr hr=>?_⟩,.refl _⟩;have hr:r∈(N.B.send z (N.s.R.length:Nat)).dE:=hr;unfold kf.send at hr
 split at hr
 ·rename_i hrm
  rcases aR.1 hr with hr|hr
  ·exact h.b r hr
  ·rw[aL.1 hr]
   exact⟨N.s.R.length,rfl,aW _,by show ahw (N.s.pre N.s.R.length) z;rw[jf.adv];exact hz,hrm⟩
 ·exact h.b r hr
theorem LA.CR(h:LA N)(hg:∀x∈N.s.L,ki x)(s:kl):LK N (N.CR s):=by
 unfold fw.CR;split
 ·rename_i h0
  have h3:=(as0 h0).2.2;refine h.send λc hc=>?_
  have hm:c∈N.s.L:=by
   unfold Aa at hc;dsimp only at hc
   split at hc
   ·exact(IK h3 _ _).subset hc
   ·cases hc
  rw[afK N.s.asc hm];exact⟨.refl _,hg c hm⟩
 ·exact .refl h
variable{i:Nat}
theorem aeZ(s:jf)(z:Kd)(hi:i<=s.R.length):(s.put z).pre i=s.pre i:=by
 unfold jf.pre
 show iy [] (s.P++(s.R++[z]).take i)=_
 grind
theorem LA.put(h:LA N)(hz:LeC (gh N.s.L z.1) z.2):LK N (N.put z):=by
 have hl:(N.s.put z).R.length=N.s.R.length+1:=by show(N.s.R++[z]).length=_;rw[ax];rfl
 refine⟨⟨λi j h1 h2=>?_,λr hr=>?_⟩,.put _ _⟩
 ·show LeL ((N.s.put z).pre i) ((N.s.put z).pre j)
  have h2:j<=(N.s.put z).R.length:=h2;by_cases hj:j<=N.s.R.length
  ·rw[aeZ _ _ hj,aeZ _ _ (bq h1 hj)]
   exact h.up i j h1 hj
  ·have hj:j=(N.s.put z).R.length:=by omega
   by_cases hi:i=j
   ·rw[hi];exact .refl _
   ·rw[aeZ _ _ (by omega),hj,jf.adv,jf.ai3]
    have h3:=h.up i N.s.R.length (by omega) (aW _);rw[jf.adv]at h3;exact h3.with ((h3 z.1).trans hz)
 ·obtain⟨i,h1,h2,h3,h4⟩:=h.b r hr
  refine⟨i,h1,?_,?_,h4⟩
  ·show i<=(N.s.put z).R.length;omega
  ·show ahw ((N.s.put z).pre i) r.1
   rw[aeZ _ _ h2];exact h3
theorem LA.fT:∀{T:List Kd}{N:fw},LA N->(T.map (·.1)).Nodup->(∀z∈T,LeC (gh N.s.L z.1) z.2)->LK N (N.fT qt T).1
 |[],N,h,_,_=>.refl h
 |z::T,N,h,hn,hT=>by
  rw[aZ,nU]at hn;unfold fw.fT;split
  ·have h1:=h.put (hT z (by simp))
   refine h1.trans (LA.fT (N:=N.put z) h1.a hn.2 λw hw=>?_)
   show LeC (gh (N.s.put z).L w.1) w.2
   rw[jf.ai3,afy,if_neg λe=>hn.1 (aV.2 ⟨w,hw,e.symm⟩)];exact hT w (by simp[hw])
  ·exact .refl h
theorem ajx:∀{T:List Kd}{N:fw},(N.fT qt T).2=0->(N.fT qt T).1.s.L=iy N.s.L T
 |[],N,_=>rfl
 |z::T,N,h=>by
  unfold fw.fT at h⊢
  split at h
  ·rename_i h1
   rw[aC h1,ajx (N:=N.put z) h]
   show iy (N.s.put z).L T=_
   rw[jf.ai3];rfl
  ·rename_i h1;exact absurd h h1
theorem LA.push(h:LA N){t:Int}(hz:gh N.s.L z.1=z.2)(hg:ki z):LK N (N.push t z):=by
 unfold fw.push;split
 ·refine h.send λc hc=>?_
  have hc:c∈[z]:=hc;rw[aL.1 hc,hz];exact⟨.refl _,hg⟩
 ·exact .refl h
theorem LA.x5:∀{l:List Int}{N:fw},LA N->gh N.s.L z.1=z.2->ki z->LK N (N.x5 l z)
 |[],N,h,_,_=>.refl h
 |t::l,N,h,hz,hg=>by
  have h1:=h.push (t:=t) hz hg;refine h1.trans (LA.x5 (l:=l) (N:=N.push t z) h1.a ?_ hg);rw[(ab8 N t z).e];exact hz
theorem ajH(bQ:Int):∀(l:List kl) (a:fw×List kl),LA a.1->(∀x∈a.1.s.L,ki x)->LK a.1 (l.foldl (Au bQ) a).1
 |[],a,h,_=>.refl h
 |s::l,a,h,hg=>by
  have h1:LK a.1 (Au bQ a s).1:=by
   unfold Au;dsimp only;split
   ·exact h.CR hg _
   ·exact .refl h
  refine h1.trans (ajH bQ l (Au bQ a s) h1.a ?_);rw[(af3 bQ a s).e];exact hg
theorem aoh(h:LA N)(hg:∀x∈N.s.L,ki x):LK N (lO N).1:=by
 unfold lO;split
 ·exact .refl h
 have h0:LK N (N.at (N.bQ+1)):=h.same rfl rfl;have h1:=ajH (N.bQ+1) N.l (N.at (N.bQ+1),[]) h0.a hg;exact(h0.trans h1).trans (h1.a.same rfl rfl)
theorem aou(h:LA N)(hg:∀x∈N.s.L,ki x)(d:Int):LK N (oC N d).1:=by
 unfold oC;split
 ·exact .refl h
 split
 ·exact .refl h
 split
 ·exact .refl h
 have h0:LK N (N.add (qs N d).1):=h.same rfl rfl;exact h0.trans (h0.a.CR hg _)
theorem ajN(h:LA N)(hA:∀x∈N.s.L,jg x)(hz:jg z):LK N (A9 qt N z).1:=by
 unfold A9;dsimp only;split
 ·rename_i hb
  obtain⟨_,h2⟩:=UC hb;exact h.put (ajA (qo hA z.1).u hz.u h2)
 ·exact .refl h
theorem ajI(h:LA N)(hA:∀x∈N.s.L,jg x){C:List Kd}(hC:∀x∈C,jg x):LK N (N.fT qt (gn N.s.L C).2).1/\((N.fT qt (gn N.s.L C).2).2=0->∀k,vj (N.fT qt (gn N.s.L C).2).1.s.L k=vj (gn N.s.L C).1 k):=by
 have hm:=auY hA hC;have hn:=aat hm.t;exact⟨h.fT hn hm.up,λh0 k=>by rw[ajx h0,ad1 hn,hm.f]⟩
variable{z:gX}
theorem ahF(h:LA N)(hA:∀x∈N.s.L,jg x)(hC:∀x∈z.ca,jg x)(hr:dR z=true)(hg:∀x∈(N.fT qt (tC N.s.L z).2.1).1.s.L,ki x):LK N (qc qt N z).1:=by
 unfold qc;split
 ·exact .refl h
 rename_i h0;have h0:(tC N.s.L z).2.2=0:=by simpa using h0
 have hk:LK N (N.fT qt (tC N.s.L z).2.1).1/\((N.fT qt (tC N.s.L z).2.1).2=0->ahw (N.fT qt (tC N.s.L z).2.1).1.s.L (tC N.s.L z).1):=by
  have Bh:∀{m:gX},m.ca=[]->ahw N.s.L m:=λe c hc=>by rw[e]at hc;cases hc
  unfold tC at h0 hg⊢
  split at h0
  ·cases h0
  rename_i h1;rw[if_neg h1]at hg⊢
  split at h0
  ·cases h0
  rename_i h1;rw[if_neg h1]at hg⊢
  split at h0
  ·rename_i h1
   rw[aC h1]at hg⊢
   split at h0
   ·grind
   ·rename_i h2
    rw[if_neg h2]at hg⊢;obtain⟨k1,k2⟩:=ajI (qt:=qt) h hA hC;refine⟨k1,λe c hc=>?_⟩;have wo:=(BX (by simpa using h2)).2.2;have hc:c∈pI (gn N.s.L z.ca).1 z.part z.pl:=hc;have hm:=(IK wo _ _).subset hc;have hf:=ad0 (vV.1 wo).2.1 hm;rw[<-k2 e]at hf;have js:=hg c (L6 hf);refine⟨?_,js⟩
    show LeC c.2 (gh (N.fT qt (gn N.s.L z.ca).2).1.s.L c.1)
    rw[gh,hf];exact .refl _
  rename_i h1;rw[if_neg h1];split
  ·split
   ·exact⟨.refl h,λ_=>Bh rfl⟩
   ·exact⟨.refl h,λ_=>Bh rfl⟩
  ·exact⟨.refl h,λ_=>Bh rfl⟩
 split
 ·exact hk.1
 ·rename_i h2
  exact hk.1.trans (hk.1.a.send (hk.2 (by simpa using h2)))
theorem aoj(h:LA N)(hA:∀x∈N.s.L,jg x)(hC:∀x∈z.ca,jg x)(hg:∀x∈(N.fT qt (gn N.s.L z.ca).2).1.s.L,ki x):LK N (vf qt N z).1:=by
 unfold vf;split
 ·exact .refl h
 rename_i i hi;unfold DS;split
 ·exact .refl h
 split
 ·exact .refl h
 obtain⟨k1,_⟩:=ajI (qt:=qt) h hA hC;split
 ·exact k1
 split
 ·exact k1.trans (k1.a.same rfl rfl)
 ·have h0:∀l,LK (N.fT qt (gn N.s.L z.ca).2).1 {(N.fT qt (gn N.s.L z.ca).2).1 with l:=l}:=λl=>k1.a.same rfl rfl
  exact(k1.trans (h0 (N.l.set i (jk (N.l.getD i oW) N.s.L z N.bQ).1))).trans ((h0 (N.l.set i (jk (N.l.getD i oW) N.s.L z N.bQ).1)).a.CR hg _)
variable {qt:Int}{N N':fw}{y:XL}{x:vF}{j k:Nat}
theorem ajL(h:LA N)(hI:pO qt j k N)(hT:NdT N)(hm:E8 x.op.1 x.op.2.1 x.op.2.2=true):LK N (lW qt N x).1:=by
 have hg:=qo (λy hy=>(hI.gl y hy).arg) x.key;have ha:=Xt (k:=x.key) (u:=(gh N.s.L x.key).1) (E:=(gh N.s.L x.key).2) hg.u hg.e hg.n hT.n8 (ajf hm);unfold lW;split
 ·exact .refl h
 split
 ·exact .refl h
 rename_i h0;split
 ·exact .refl h
 rename_i hp;have h0:(Jc (gh N.s.L x.key) N.n x.op).2.2=0:=by simpa using h0
 have hp:rq qt N.A N.s (x.key,(Jc (gh N.s.L x.key) N.n x.op).1)=0:=by simpa using hp
 have h1:=h.put (z:=(x.key,(Jc (gh N.s.L x.key) N.n x.op).1)) (avf h0);have hI1:=hI.put ha.u hp
 have hf:vj (N.put (x.key,(Jc (gh N.s.L x.key) N.n x.op).1)).s.L x.key=some (Jc (gh N.s.L x.key) N.n x.op).1:=by
  show vj (N.s.put _).L _=_
  rw[jf.ai3,aaY,aC rfl]
 have h2:LK (N.put (x.key,(Jc (gh N.s.L x.key) N.n x.op).1)) ((N.put (x.key,(Jc (gh N.s.L x.key) N.n x.op).1)).nX ⟨x.id,0,[]⟩):=h1.a.same rfl rfl;refine(h1.trans h2).trans (h2.a.x5 ?_ (hI1.gl _ (L6 hf)))
 show gh (N.put (x.key,(Jc (gh N.s.L x.key) N.n x.op).1)).s.L x.key=_
 rw[gh,hf];rfl
theorem ajX(h:LA N)(hI:pO qt j k N)(hC:∀x∈z.ca,jg x)(hr:dR z=true)(hl:N.s.L.length+z.ca.length<=1333):LK N (mK qt N z).1:=by
 have hA:∀x∈N.s.L,jg x:=λx hx=>(hI.gl x hx).arg;unfold mK;split
 ·exact .refl h
 split
 ·exact .refl h
 split
 ·refine ahF h hA hC hr ?_
  by_cases h0:(tC N.s.L z).2.2=0
  ·have WZ:=(XJ hA hr hC hl h0).2
   exact(hI.fT (L:=(tC N.s.L z).2.1) λx hx=>(WZ.a x hx).u).gl
  ·have e:(tC N.s.L z).2.1=[]:=by
    unfold tC at h0⊢
    grind
   rw[e];exact hI.gl
 split
 ·split
  ·rename_i w _ e
   exact ajN h hA (hC w (by rw[e];simp))
  ·exact .refl h
 ·have WZ:=C8 hA hC
  exact aoj h hA hC (hI.fT (L:=(gn N.s.L z.ca).2) λx hx=>(WZ.a x hx).u).gl
theorem afR(qt:Int)(A:List Af)(s:jf):((∃st,qf qt A s=s.at st)/\¬((tI qt A s).2=0/\(tI qt A s).1=0))\/(qf qt A s=s.next/\tI qt A s=(0,0)):=by
 unfold qf tI;split
 ·exact .inl ⟨⟨s.st,rfl⟩,by simp⟩
 grind
theorem avi(h:LA N)(hI:pO qt j k N)(hT:NdT N)(hj:j<=1300)(hx:ON x)(hd:y4 qt N x N' y):LA N'/\(Ext N.s N'.s\/N'.s.cY=N'.s.R.length):=by
 have up:∀{M:fw},LK N M->LA M/\(Ext N.s M.s\/M.s.cY=M.s.R.length):=λh=>⟨h.a,.inl h.e⟩;unfold y4 at hd
 split at hd
 ·rw[hd.1];exact up (.refl h)
 rename_i hr
 have ez:S5 x=true:=by
  have:aaL x=true:=by simpa using hr
  unfold aaL at this;rw[aB]at this;exact this.1
 unfold S5 at ez
 split at hd
 ·rename_i h1
  rw[aC h1,aB]at ez;have e:N'=(lW qt N x).1:=by rw[<-hd]
  rw[e];exact up (ajL h hI hT ez.2)
 rename_i h1;rw[if_neg h1]at ez
 split at hd
 ·have e:N'=(qj N x).1:=by rw[<-hd]
  rw[e];refine up ?_;unfold qj;split
  ·exact .refl h
  ·exact h.same rfl rfl
 rename_i h2;rw[if_neg h2]at ez
 split at hd
 ·rw[hd.1];exact up (aoh h hI.gl)
 split at hd
 ·rw[hd.1];exact up (aou h hI.gl _)
 split at hd
 ·rename_i h5
  rw[aC h5]at ez;rw[hd.1];exact up (ajX h hI hx.ca ez (by have:=hI.ll;have:=hx.s.c.1;omega))
 split at hd
 ·obtain⟨kc,_,h6,_⟩:=hd
  rw[h6];exact⟨h.of rfl rfl rfl,.inr rfl⟩
 split at hd
 ·rw[hd.1]
  refine⟨h.of ?_ ?_ rfl,.inl ?_⟩
  ·show(if sU N.s=0 then N.s.at 1 else N.s).P=_;split<;>rfl
  ·show(if sU N.s=0 then N.s.at 1 else N.s).R=_;split<;>rfl
  ·show Ext N.s (if sU N.s=0 then N.s.at 1 else N.s);split
   ·exact⟨rfl,rfl,[],(cO _).symm⟩
   ·exact .refl _
 ·obtain⟨A',oK,kc,h1,_,_⟩:=hd
  rw[h1];rcases afR qt N.A N.s with⟨⟨st,e⟩,hn⟩|⟨e,ht⟩
  ·refine⟨h.of ?_ ?_ ?_,.inl ?_⟩
   ·show(qf qt N.A N.s).P=_;rw[e];rfl
   ·show(qf qt N.A N.s).R=_;rw[e];rfl
   ·show(if (tI qt N.A N.s).2=0/\(tI qt N.A N.s).1=0 then N.B.shift else N.B).dE=_
    rw[if_neg hn]
   ·show Ext N.s (qf qt N.A N.s);rw[e];exact⟨rfl,rfl,[],(cO _).symm⟩
  ·have hs:(N.KI qt A' oK kc).s=N.s.next:=e
   have hR:N.s.next.R=[]:=rfl;have cM:=jf.adv N.s.next;rw[hR,jf.akD]at cM;refine⟨⟨λi j h1 h2=>?_,λr hr=>?_⟩,.inr ?_⟩
   ·rw[hs,hR]at h2
    have:j=0:=by simpa using h2
    have:i=0:=by omega
    subst_vars
    exact .refl _
   ·have hr:r∈(if (tI qt N.A N.s).2=0/\(tI qt N.A N.s).1=0 then N.B.shift else N.B).dE:=hr
    rw[ht,aC ⟨rfl,rfl⟩]at hr;obtain⟨w,hw,rfl⟩:=aV.1 hr;obtain⟨i,k1,k2,k3,k4⟩:=h.b w hw;refine⟨0,rfl,lF _,λc hc=>?_,k4⟩;rw[hs];have cM:N.s.next.pre 0=N.s.L:=cM;rw[cM];obtain⟨c1,c2⟩:=k3 c hc;have h4:=h.up i N.s.R.length k2 (aW _) c.1;rw[jf.adv]at h4;exact⟨c1.trans h4,c2⟩
   ·rw[hs];rfl
theorem ajY{ns:Nat}:LA (N0 r n ns):=⟨λi j h1 h2=>by
 have h2:j<=0:=h2;have:i=j:=by omega
 rw[this];exact .refl _,λr hr=>(by cases hr)⟩
theorem ajJ(h:LA N):LA N.AA:=⟨h.up,λr hr=>h.b r (cH.1 hr).1⟩
theorem aoi(h:LA N)(hs:N.s.cY<=N.s.R.length):∀z∈N.Nb,ahw (N.s.pre N.s.cY) z/\dR z=true:=λz hz=>by
 obtain⟨r,hr,rfl⟩:=aV.1 hz;obtain⟨hr,hm⟩:=cH.1 hr;obtain⟨i,h1,h2,h3,h4⟩:=h.b r hr;have hm:r.2<=(N.s.cY:Nat):=ah hm;refine⟨λc hc=>?_,h4⟩;obtain⟨c1,c2⟩:=h3 c hc;exact⟨c1.trans (h.up i _ (by omega) hs c.1),c2⟩
theorem ajy{s':jf}(h:Ext s s')(hs:s.cY<=s.R.length):s'.pre s'.cY=s.pre s.cY:=by
 obtain⟨T,hT⟩:=h.r;unfold jf.pre;rw[h.u,h.p,hT,dD hs]
theorem afl(h1:∀x∈s.P,ki x)(h2:∀x∈s.R,ki x):∀x∈s.pre i,ki x:=Wf _ _ (by simp) λx hx=>(aR.1 hx).elim (h1 x) λhx=>h2 x (bX hx)
theorem ahz:(s.pre i).length<=s.P.length+s.R.length:=by
 have h:=uL [] (s.P++s.R.take i);have h2:(s.R.take i).length<=s.R.length:=List.length_take_le' ..;rw[ax]at h;unfold jf.pre
 grind
structure axs(qt:Int)(N:fw)(dO:List Int)(g:Nat)(P R:List Kd)(K:Nat):Prop where
 c:CI qt (aaI N.A dO) g P R K
 (gs:g<=N.s.g+1)
 l:P.length+R.length<=N.s.P.length+N.s.R.length
 (k:K<=6700*(N.s.P.length+N.s.R.length))
 u:LeL (N.s.pre N.s.cY) (kb g P R K).L
 gl:∀x∈(kb g P R K).L,ki x
theorem ajV(h:LA N)(hf:FI qt N.A N.s)(hA:∀a∈N.A,a.fB<=a.l.length)(dO:List Int):∃g P R K,axs qt N dO g P R K:=by
 rcases hf.axj hA dO with⟨_,K,hK,hc⟩|⟨h4,hc⟩
 ·have Zs:=uN N.s.R K
  have hw2:=ahA hf.su hK;have ZH:=XC hf.gr;rw[aeM]at ZH
  have hKl:K<=(Fr.kP (kI N.s.R)).length:=by
   rcases hc.lg with⟨_,_,h0⟩|⟨_,_,h0⟩
   (simp_all;omega)
  have e:(kb N.s.g N.s.P N.s.R K).L=N.s.pre (dN N.s.R K):=by
   show iy [] (N.s.P++(N.s.R.take (dN N.s.R K)))=_
   rfl
  exact⟨_,_,_,K,hc,by omega,aW _,by rw[Nat.mul_add];omega,by rw[e];exact h.up _ _ hw2 Zs,by rw[e];exact afl hf.gp hf.gr⟩
 ·have hsu:=hf.ss (by omega)
  have e:(kb (N.s.g+1) N.s.L [] 0).L=N.s.L:=by
   show iy [] (N.s.L++[].take _)=_
   rw[List.take_nil,cO,Tt N.s.asc]
  refine⟨_,_,_,0,hc,aW _,by have:=abN N.s;simpa using this,by omega,by rw[e,hsu,jf.adv];exact .refl _,by rw[e];exact hf.gl⟩
theorem ajv(h:pO qt j k N)(hj:j<=1300)(hk:k<=490)(dO:List Int):Sm 1000 (aaI N.A dO) N.nb N.ns:=by
 have h1:=h.sm hj (by omega);have h2:=afB N.A dO;have h3:=h2.n;have h4:=h.an;exact⟨h2.l _ h1.l,by omega,h1.nb,h1.ns,h1.k⟩
theorem ajz{A:List Af}(hA:∀a∈A,a.fB<=a.l.length)(dO:List Int)(h:Eg A):Eg (aaI A dO):=by
 obtain⟨f,h1,h2⟩:=afA (dO:=dO) hA;rw[h1];exact WF (λa ha=>(h2 a ha).1.name) h
variable {m:aD}
def afh(a b:Ct):Bool:=decide ((nh a b).2=0)&&decide ((nh a b).1=a)
theorem afu{u w:List Int}{E K:List En}:(decide (u=w)&&decide (E=K))=decide ((u,E)=(w,K)):=by
 rw[nV];simp
theorem afE(hS:cK m){u w:List Int}{a a':Option Addr}{c c':Nat}{E K:List En}(hu:yZ u)(hw:yZ w)(hv:Na m (.slice a E.length c) E)(hk:Na m (.slice a' K.length c') K)(hIE:∀e∈E,CS e)(hIK:∀e∈K,CS e)(hl:E.length<=1000)(DN:K.length<=1000):
  bi tP 56 [iY u a E.length c,iY w a' K.length c'] m λr m'=>r=[bR (afh (u,E) (w,K))]/\cL m m':=by
 have hF:afh (u,E) (w,K)=(decide ((nh (u,E) (w,K)).2=0)&&decide ((nh (u,E) (w,K)).1=(u,E))):=rfl;have hn:=λh=>xH (k:=ByteArray.empty) (x:=(u,E)) (y:=(w,K)) ⟨hu,hIE,hl⟩ ⟨hw,hIK,DN⟩ h;refine enZ Tryz.func56 ?_;conv=>whnf
 refine aP (Pk hS hu hw hv hk hIE hIK hl DN) ?_;rintro _ m2⟨x,e,a2,c2,p2,Be,he2,rfl,bZ,lD⟩;conv=>whnf
 rw[hF,<-Be,<-he2];rw[<-Be,<-he2]at hn;apply bI<;>intro h
 ·have h0:e=0:=by simpa using h
  subst h0;obtain⟨xu,xE⟩:=x;conv=>whnf
  first|refine fU (vQ (u:=xu) (w:=u) (lD.sub (bZ.sub)) (hv.sub (bZ.sub)) (bq (hn rfl).n (by decide))) ?_ |refine bt (vQ (u:=xu) (w:=u) (lD.sub (bZ.sub)) (hv.sub (bZ.sub)) (bq (hn rfl).n (by decide))) ?_
  conv=>whnf
  exact⟨by rw[afu];rfl,bZ.sub⟩
 ·have h0:¬e=0:=by simpa using h
  conv=>whnf
  exact⟨by rw[aY h0];rfl,bZ.sub⟩
def afo(L:List Kd)(x:Kd):Bool:=afh (gh L x.1) x.2||decide (gh L x.1=x.2)
theorem afO{x:Kd}(hL:∀y∈L,ki y)(hx:ki x)(h:LeC x.2 (gh L x.1)):afo L x=true:=by
 have hr:=Vm hL x.1;have hg:=qo (λy hy=>(hL y hy).arg) x.1;have:=h.axk hx.r hr hx.u hg.u;unfold afo afh;rw[this];simp
variable{v:Value}
theorem adI(hS:cK m){x:Kd}{a:Option Addr}{c:Nat}(hv:lu m v L)(hL:∀y∈L,ki y)(hl:L.length<=1000000)(hx:ki x)(hk:Na m (.slice a x.2.2.length c) x.2.2)(hc:LeC x.2 (gh L x.1)):
  bi tP 23 [.v v,kyV x a c] m λr m'=>r=[bR true]/\cL m m':=by
 obtain⟨k,u,E⟩:=x;have hg:=qo (λy hy=>(hL y hy).arg) k;have hF:=afO hL hx hc;have hA:=hx.arg;simp only at hk;refine enZ Tryz.func23 ?_;conv=>whnf
 refine aP (G3 (k:=k) hv hl) ?_;rintro _ m1⟨a1,c1,rfl,bM,U6⟩;conv=>whnf
 unfold afo at hF;simp only at hF;generalize gh L k=was at*;obtain⟨wu,wE⟩:=was;have hwn:wE.length<=1000:=hg.n;refine aP (afE (u:=wu) (w:=u) (hS.sub bM) hg.u hA.u (U6.sub bM) (hk.sub bM) hg.e hA.e hwn hA.n) ?_;rintro _ m2⟨rfl,bZ⟩;conv=>whnf
 apply bI<;>intro h
 ·conv=>whnf
  exact⟨rfl,bM.trans bZ⟩
 ·rw[h,nW]at hF
  conv=>whnf
  first|refine fU (vQ (u:=wu) (w:=u) (U6.sub (bM.trans bZ)) (hk.sub (bM.trans bZ)) (bq hwn (by decide))) ?_ |refine bt (vQ (u:=wu) (w:=u) (U6.sub (bM.trans bZ)) (hk.sub (bM.trans bZ)) (bq hwn (by decide))) ?_
  conv=>whnf
  exact⟨by rw[afu,hF],bM.trans bZ⟩
def sE(n:Int):vF:=⟨n,0,ByteArray.empty,(0,0,0),0,fP⟩
def Nk:iS:=⟨(none,0),(none,0),(none,0)⟩
theorem QC(n:Int):ON (sE n):=
 ⟨⟨⟨(by intro c hc;cases hc),⟨rV,(by intro c hc;cases hc)⟩,by show 0<=_;omega⟩,by show(0:Int)<=0/\(0:Int)<_;omega⟩,⟨by show 0<=_;omega,by show 0<=_;omega,by show 0<=_;omega,(by intro c hc;cases hc)⟩⟩
theorem B1(m:aD)(n:Int):vC m (sE n) Nk:=(QC n).at (by show 0<=_;omega) ⟨rfl,(Io.nil _).il.ia,(I0.nil _).dl.da,lu.nil _⟩
theorem G2(n:Int):∀(l dE:List Int) (x:Int),x∈dE->x∈iM n dE l
 |[],dE,x,h=>h
 |y::l,dE,x,h=>by
  unfold iM;refine G2 n l _ x ?_;split
  ·exact lJ _ h
  ·exact h
theorem P1(n:Int):∀(l dE:List Int),dE.Nodup->(iM n dE l).Nodup
 |[],dE,h=>h
 |y::l,dE,h=>by
  unfold iM;refine P1 n l _ ?_;split
  ·rename_i h1
   simp only[aB,dH,jS,gz]at h1;exact uH.2 ⟨h,by simp,λa ha b hb=>by rw[aL.1 hb];intro e;exact h1.2 (e▸ha)⟩
  ·exact h
theorem K3(n:Int):∀(l dE:List Int) (x:Int),x∈iM n dE l->x∈dE\/x∈l
 |[],dE,x,h=>.inl h
 |y::l,dE,x,h=>by
  unfold iM at h;rcases K3 n l _ x h with h|h
  ·split at h
   ·rcases aR.1 h with h|h
    ·exact .inl h
    ·exact .inr (aU.2 (.inl (aL.1 h)))
   ·exact .inl h
  ·exact .inr (bO _ h)
theorem K5(n:Int):∀(l dE:List Int),(iM n dE l).length<n->∀x∈l,x∈iM n dE l
 |[],dE,_,x,hx=>by cases hx
 |y::l,dE,h,x,hx=>by
  unfold iM at h⊢;rcases aU.1 hx with rfl|hx
  ·refine G2 n l _ _ ?_
   split
   ·exact jp _ (aL.2 rfl)
   ·rename_i h1
    simp only[aB,dH,jS,gz,bA,not_and,lM]at h1;refine h1 ?_;rw[if_neg (by simp only[aB,dH,jS,gz,bA,not_and,lM];exact h1)]at h
    have:dE.length<=(iM n dE l).length:=by
     have hs:∀(l dE:List Int),dE.length<=(iM n dE l).length:=by
      intro l
      induction l with
      |nil=>intro dE;exact aW _
      |cons z l ih=>
       intro dE;unfold iM;refine bq ?_ (ih _);split
       ·simp
       ·exact aW _
     exact hs l dE
    omega
  ·exact K5 n l _ h x hx
theorem ao1{l:List Int}(h:∀x,x=1\/x=2\/x=3↔x∈l):(iM 3 [] l).Nodup/\∀x,x∈iM 3 [] l↔x=1\/x=2\/x=3:=by
 have hn:=P1 3 l [] List.nodup_nil;have hs:=K3 3 l []
 have key:∀x,x=1\/x=2\/x=3->x∈iM 3 [] l:=by
  by_cases hl:((iM 3 [] l).length:Int)<3
  ·exact λx hx=>K5 3 l [] hl x ((h x).1 hx)
  ·intro x hx
   refine Decidable.byContradiction λhc=>?_;have hp:=dz.1 hn
   have hm:∀(i:Nat) (hi:i<(iM 3 [] l).length),((iM 3 [] l)[i]=1\/(iM 3 [] l)[i]=2\/(iM 3 [] l)[i]=3)/\(iM 3 [] l)[i]≠x:=λi hi=>by
    have hi2:=aO hi
    grind
   have m0:=hm 0 (by omega);have m1:=hm 1 (by omega);have m2:=hm 2 (by omega)
   grind
 grind
def lC:ByteArray:=⟨#[97,98,99]⟩
def aj9:List Int:=[0,1,0,0,0,0,0,0]
def VD:En:=(2,2,1,3)
def pJ:Ct:=(aj9,[VD])
def UV:vF:=⟨1,5,lC,(1,2,3),0,fP⟩
def ahe:vF:=⟨2,6,lC,(0,0,0),0,fP⟩
def UT:vF:=⟨4,0,ByteArray.empty,(0,0,0),1,fP⟩
theorem ac8:kZ (jR lC)=true:=by decide
theorem ag1:AD [VD]=[(2,1)]:=by
 simp[AD,TW,uP,kz,VD,ku,uw,S7,gL]
theorem PN:dA pJ.1 pJ.2=true:=by
 show dA aj9 [VD]=true
 unfold dA;rw[ag1];decide
theorem aq6:Jc (fx,[]) 2 (1,2,3)=(pJ,((1,2,3),(2,1),[]),0):=by
 have h1:Jy (1,2,3) []=[]:=by simp[Jy,AD,TW,uP,gL]
 have h2:nY [((2,2,1,3):En)]=[(2,2,1,3)]:=List.mergeSort_singleton _;have h3:nj (1,2,3) []=[]:=rfl;have h4:tv fx 2=(1,0):=by decide
 have h5:wR fx 2 1=aj9:=by decide
 unfold Jc;simp only[h1,h3,h4,h5];rw[if_neg (by decide),if_neg (by decide),if_neg (by simp),bV,h2];rfl
theorem UU:aaL UV=true:=by decide
theorem US:aaL ahe=true:=by decide
theorem HN:aaL UT=true:=by decide
theorem QD:aaL (sE 6)=true:=by decide
theorem QE:aaL (sE 3)=true:=by decide
theorem akt:∀x:Int,x=1\/x=2\/x=3↔x∈(ja (vA 3)).map (·.2):=by
 intro x;unfold ja;simp only[aV,adY,M3,Ju,iu,dS,List.mem_range'_1,agq];have e1:(vA 3).jv.toNat=3:=rfl;have e2:(vA 3).AO.toNat=4:=rfl;rw[e1,e2]
 constructor
 ·intro h
  refine⟨_,⟨x.toNat,by omega,0,by omega,rfl⟩,?_⟩;omega
 grind
theorem WO{part:Int}(hp:0<=part/\part<=7):(sB (vA 3) part).Nodup/\∀x,x∈sB (vA 3) part↔x=1\/x=2\/x=3:=by
 unfold sB;rw[if_neg (by omega)];refine ao1 λx=>(akt x).trans ?_;generalize (max (sH (λp=>decide (part*2305843009213693952<=p.1)) (ja (vA 3))) (0:Int)).toNat=i;simp only[aV,aR]
 constructor
 ·rintro⟨a,ha,e⟩
  rw[<-dL i (ja (vA 3))]at ha
  grind
 grind
theorem Q3{part:Int}(hn:n=1\/n=2\/n=3)(hp:0<=part/\part<=7):l4 (vA 3) n part=true:=by
 unfold l4;rw[Kc];exact((WO hp).2 n).2 hn
theorem acm(hn:n=1\/n=2\/n=3):x8 (vA 3) n=[0,1,2,3,4,5,6,7]:=by
 unfold x8;rw[bY.2]
 ·rfl
 ·intro a ha
  refine Q3 hn ?_
  grind
theorem C9{a:Int}(ha:a=1\/a=2\/a=3)(hn:n=1\/n=2\/n=3)(h:a≠n):ng (vA 3) a n=[0,1,2,3,4,5,6,7]:=by
 unfold ng;rw[if_neg h,acm ha,bY.2];intro p hp;refine Q3 hn ?_;simp at hp;omega
theorem P3:kw (vA 3) 2=[1,3]:=by
 have h1:wU (vA 3) 2 1=true:=by unfold wU;rw[C9 (by omega) (by omega) (by omega)];decide
 have h2:wU (vA 3) 2 2=false:=by unfold wU ng;rw[aC rfl];decide
 have h3:wU (vA 3) 2 3=true:=by unfold wU;rw[C9 (by omega) (by omega) (by omega)];decide
 unfold kw pX;have e1:((List.range (vA 3).jv.toNat).map λ(i:Nat)=>((i+1:Nat):Int))=[1,2,3]:=rfl
 grind
theorem WP:(wW (vA 3) lC).Nodup/\∀x,x∈wW (vA 3) lC↔x=1\/x=2\/x=3:=by
 unfold wW;rw[aC ac8];have:=K7 lC;exact WO (by omega)
theorem Q4:sJ (vA 3) 2 lC=true:=by
 unfold sJ;rw[Kc];exact(WP.2 2).2 (by omega)
theorem YZ:∃a b:Int,ko (vA 3) lC 2=[a,b]/\(a=1\/a=3)/\(b=1\/b=3):=by
 obtain⟨hn,hm⟩:=WP
 have hf:∀x,x∈ko (vA 3) lC 2↔x=1\/x=3:=λx=>by
  unfold ko
  grind
 have hd:(ko (vA 3) lC 2).Nodup:=hn.filter _;generalize ko (vA 3) lC 2=l at hf hd
 match l,hf,hd with
 |[],hf,_=>exact absurd ((hf 1).2 (.inl rfl)) (by simp)
 |[a],hf,_=>
  have h1:=(hf 1).2 (.inl rfl);have h3:=(hf 3).2 (.inr rfl);simp at h1 h3;omega
 |[a,b],hf,_=>exact⟨a,b,rfl,(hf a).1 (by simp),(hf b).1 (by simp)⟩
 |a::b::c::r,hf,hd=>
  have ha:=(hf a).1 (by simp);have hb:=(hf b).1 (by simp);have hc:=(hf c).1 (by simp);simp only[nU,aU,not_or]at hd;omega
theorem zm{t:Int}(ht:t=1\/t=3):dR (iL 2 t (lC,pJ))=true:=by
 have hl:cX [((lC,pJ):Kd)]=true:=vV.2 ⟨λx hx=>by rw[aL.1 hx];exact⟨by decide,PN⟩,Fu _ _,by simp⟩;unfold dR Vo iL;simp only[hl];rcases ht with rfl|rfl<;>decide
structure O0(N:fw)(su o:Nat)(an:List Rv)(l:List kl)(bQ dO:Int):Prop where
 (c:N.c=vA 3)
 (w:N.w=Rl)
 (n:N.n=2)
 (L:N.s.L=[(lC,pJ)])
 (R:N.s.R.length=1)
 (su:N.s.cY=su)
 (o:N.B.dE.length=o/\∀r∈N.B.dE,r.2=1)
 (an:N.B.o7=an.map λx=>(x,1))
 (l:N.l=l)
 (bQ:N.bQ=bQ)
 (dO:N.dO=dO)
variable {N N':fw}{y:XL}{ns su o:Nat}{an:List Rv}{l:List kl}{bQ dO:Int}
theorem MM{x:gX}(hR:N.s.R.length=1)(ho:N.B.dE.length=o/\∀r∈N.B.dE,r.2=1)(hx:dR x=true):(N.send x).B.dE.length=o+1/\∀r∈(N.send x).B.dE,r.2=1:=by
 show(N.B.send x _).dE.length=_/\_
 have e:(N.send x).B.dE=N.B.dE++[(x,((N.s.R.length:Nat):Int))]:=by
  show(N.B.send x _).dE=_
  unfold kf.send
  grind
 have e2:(N.B.send x ((N.s.R.length:Nat):Int)).dE=N.B.dE++[(x,((N.s.R.length:Nat):Int))]:=e
 grind
theorem ae3(hd:y4 0 (N0 3 2 ns) UV N' y):y.err=0/\y.ev.2.1.2=1/\O0 N' 0 2 [⟨5,0,[]⟩] [] 0 0:=by
 unfold y4 at hd;rw[if_neg (by rw[UU];simp),aC (show UV.kind=1 from rfl)]at hd;have hL:(N0 3 2 ns).s.L=[]:=rfl;have hg:gh (N0 3 2 ns).s.L lC=(fx,[]):=rfl
 have hp:rq 0 (N0 3 2 ns).A (N0 3 2 ns).s (lC,pJ)=0:=by
  have h1:sW (N0 3 2 ns).s lC pJ=0:=by
   unfold sW;rw[if_neg (by rw[ac8];simp),if_neg (by rw[PN];simp),if_neg (show ¬ 0<(N0 3 2 ns).s.st from Nat.lt_irrefl 0)]
  unfold rq;rw[if_neg (by simp only[h1];simp),if_neg];rintro⟨h,_⟩;exact absurd h (by decide)
 obtain⟨a,b,ho,ha,hb⟩:=YZ;unfold lW at hd;have e1:(N0 3 2 ns).c=vA 3:=rfl;have e2:(N0 3 2 ns).n=2:=rfl;have e3:UV.key=lC:=rfl;have e4:UV.op=(1,2,3):=rfl;have e5:UV.id=5:=rfl;simp only[e1,e2,e3,e4,e5,hg,aq6,Q4,hp,ho]at hd;rw[if_neg (by simp),if_neg (by simp),if_neg (by simp)]at hd;obtain⟨h1,h2⟩:=Prod.mk.inj hd;refine⟨by rw[h2],by rw[h2],?_⟩;have s1:=MM (N:=((N0 3 2 ns).put (lC,pJ)).nX ⟨5,0,[]⟩) (o:=0) (x:=iL 2 a (lC,pJ)) rfl ⟨rfl,λr hr=>by cases hr⟩ (zm ha);have s2:=MM (N:=(((N0 3 2 ns).put (lC,pJ)).nX ⟨5,0,[]⟩).send (iL 2 a (lC,pJ))) (x:=iL 2 b (lC,pJ)) rfl s1 (zm hb)
 have e6:N'=((((N0 3 2 ns).put (lC,pJ)).nX ⟨5,0,[]⟩).send (iL 2 a (lC,pJ))).send (iL 2 b (lC,pJ)):=by
  rw[h1]
  show fw.push (fw.push _ a _) b _=_
  unfold fw.push;have ea:dR (iL (((N0 3 2 ns).put (lC,pJ)).nX ⟨5,0,[]⟩).n a (lC,pJ))=true:=zm ha;rw[aC ea];have eb:dR (iL ((((N0 3 2 ns).put (lC,pJ)).nX ⟨5,0,[]⟩).send (iL (((N0 3 2 ns).put (lC,pJ)).nX ⟨5,0,[]⟩).n a (lC,pJ))).n b (lC,pJ))=true:=zm hb;rw[aC eb];rfl
 have hs:N'.s=(N0 3 2 ns).s.put (lC,pJ):=by rw[e6];rfl
 have ean:(kf.send (kf.send (kf.nX ⟨[],[]⟩ ⟨5,0,[]⟩ 1) (iL 2 a (lC,pJ)) 1) (iL 2 b (lC,pJ)) 1).o7=[(⟨5,0,[]⟩,1)]:=by
  unfold kf.send;rw[aC (zm ha),aC (zm hb)];rfl
 refine⟨by rw[e6];rfl,by rw[e6];rfl,by rw[e6];rfl,?_,by rw[hs];rfl,by rw[hs];rfl,by rw[e6];exact s2,?_,by rw[e6];rfl,by rw[e6];rfl,by rw[e6];rfl⟩
 ·rw[hs,jf.ai3]
  rfl
 ·rw[e6]
  exact ean
theorem aiz(h:O0 N 0 o an l bQ dO):N.Nb=[]/\O0 N.AA 0 o an l bQ dO:=by
 have hm:∀r∈N.B.dE,kh ((N.s.cY:Nat):Int) r.2=false:=λr hr=>by rw[h.o.2 r hr,h.su];decide
 have e1:N.Nb=[]:=by
  show(N.B.dE.filter _).map _=[]
  (simp_all;omega)
 have e2:N.AA.B.dE=N.B.dE:=bY.2 λr hr=>by rw[hm r hr];rfl
 exact⟨e1,h.c,h.w,h.n,h.L,h.R,h.su,by rw[e2];exact h.o,h.an,h.l,h.bQ,h.dO⟩
theorem ae2(h:O0 N 0 o an l bQ dO):N.BI=[]/\O0 N.uo 0 o an l bQ dO:=by
 have hm:∀r∈N.B.o7,kh ((N.s.cY:Nat):Int) r.2=false:=λr hr=>by
  rw[h.an]at hr;obtain⟨x,_,rfl⟩:=aV.1 hr;rw[h.su];rfl
 have e1:N.BI=[]:=by
  show(N.B.o7.filter _).map _=[]
  (simp_all;omega)
 have e2:N.uo.B.o7=N.B.o7:=bY.2 λr hr=>by rw[hm r hr];rfl
 exact⟨e1,h.c,h.w,h.n,h.L,h.R,h.su,h.o,by rw[e2];exact h.an,h.l,h.bQ,h.dO⟩
theorem aiy(h:O0 N 1 o an l bQ dO):N.Nb.length=o/\O0 N.AA 1 0 an l bQ dO:=by
 have hm:∀r∈N.B.dE,kh ((N.s.cY:Nat):Int) r.2=true:=λr hr=>by rw[h.o.2 r hr,h.su];decide
 have e1:N.Nb.length=o:=by
  show((N.B.dE.filter _).map _).length=o
  rw[aH,bY.2 hm];exact h.o.1
 have e2:N.AA.B.dE=[]:=gP.2 λr hr=>by rw[hm r hr];simp
 exact⟨e1,h.c,h.w,h.n,h.L,h.R,h.su,by rw[e2];exact⟨rfl,λr hr=>by cases hr⟩,h.an,h.l,h.bQ,h.dO⟩
theorem ae1(h:O0 N 1 o an l bQ dO):N.BI=an/\O0 N.uo 1 o [] l bQ dO:=by
 have hm:∀r∈N.B.o7,kh ((N.s.cY:Nat):Int) r.2=true:=λr hr=>by
  rw[h.an]at hr;obtain⟨x,_,rfl⟩:=aV.1 hr;rw[h.su];rfl
 have e1:N.BI=an:=by
  show(N.B.o7.filter _).map _=an
  rw[bY.2 hm,h.an,fS];exact lL an
 have e2:N.uo.B.o7=[]:=gP.2 λr hr=>by rw[hm r hr];simp
 exact⟨e1,h.c,h.w,h.n,h.L,h.R,h.su,h.o,by rw[e2];rfl,h.l,h.bQ,h.dO⟩
theorem aiw(h:O0 N 0 o an l bQ dO)(hd:y4 0 N (sE 6) N' y):y.err=0/\O0 N' 1 o an l bQ dO:=by
 unfold y4 at hd;rw[if_neg (by rw[QD];simp)]at hd;simp[sE]at hd;obtain⟨kc,_,h1,h2⟩:=hd;rw[h1,h2];exact⟨rfl,h.c,h.w,h.n,h.L,h.R,h.R,h.o,h.an,h.l,h.bQ,h.dO⟩
def GA:kl:=vT ⟨1,2,3,0,1,[],Rl,0⟩ 1 [] 0
theorem aiA(h:O0 N 1 0 [] [] 0 0)(hd:y4 0 N UT N' y):y.err=0/\∃o',O0 N' 1 o' [] [GA] 0 1:=by
 unfold y4 at hd;rw[if_neg (by rw[HN];simp)]at hd;simp[UT]at hd;have hp:lV (kw N.c N.n) 1=(3,0):=by rw[h.c,h.n,P3];decide
 have hb:qs N 1=(GA,0):=by
  unfold qs;rw[hp,h.c,h.n,h.w,h.bQ,h.dO,C9 (by omega) (by omega) (by omega)];rfl
 have e:oC N 1=((N.add GA).CR GA,0):=by
  unfold oC;rw[hp,if_neg (by simp),if_neg (by rw[h.l];simp),hb,if_neg (by simp)]
 rw[e]at hd;obtain⟨h1,h2⟩:=hd;refine⟨by rw[h2],?_⟩;rw[h1];have h0:O0 (N.add GA) 1 0 [] [GA] 0 1:=⟨h.c,h.w,h.n,h.L,h.R,h.su,h.o,h.an,by show N.l++[GA]=_;rw[h.l];rfl,h.bQ,by show N.dO+1=1;rw[h.dO];rfl⟩;unfold fw.CR;split
 ·by_cases hr:dR (Aa GA (N.add GA).s.L)=true
  ·refine⟨_,h0.c,h0.w,h0.n,h0.L,h0.R,h0.su,MM h0.R h0.o hr,?_,h0.l,h0.bQ,h0.dO⟩
   rw[xR];exact h0.an
  ·refine⟨0,h0.c,h0.w,h0.n,h0.L,h0.R,h0.su,?_,?_,h0.l,h0.bQ,h0.dO⟩
   ·show(kf.send _ _ _).dE.length=0/\∀r∈(kf.send _ _ _).dE,_
    unfold kf.send;rw[if_neg hr];exact h0.o
   ·rw[xR];exact h0.an
 grind
theorem ae0(h:O0 N 1 o an [GA] 0 1)(hd:y4 0 N UT N' y):y.err=10/\N'=N:=by
 unfold y4 at hd;rw[if_neg (by rw[HN];simp)]at hd;simp[UT]at hd;have hp:lV (kw N.c N.n) 1=(3,0):=by rw[h.c,h.n,P3];decide
 have e:oC N 1=(N,10):=by
  unfold oC;rw[hp,if_neg (by simp),aC (by rw[h.l];decide)]
 grind
theorem abh:um [VD]=[(2,3)]:=by
 unfold um;rw[show nY [VD]=[VD] from List.mergeSort_singleton _];decide
theorem aix(h:O0 N su o an l bQ dO)(hd:y4 0 N ahe N' y):y.ln=[(2,3)]/\∃an',O0 N' su o an' l bQ dO:=by
 unfold y4 at hd;rw[if_neg (by rw[US];simp)]at hd;simp[ahe]at hd;unfold qj at hd;have hg:gh N.s.L lC=pJ:=by rw[h.L];decide
 rw[h.c,h.n]at hd;simp only[Q4,hg]at hd;rw[if_neg (by simp)]at hd;obtain⟨h1,h2⟩:=Prod.mk.inj hd;refine⟨by rw[h2];exact abh,an++[⟨6,0,As (um pJ.2)⟩],?_⟩;rw[h1];refine⟨h.c,h.w,h.n,h.L,h.R,h.su,h.o,?_,h.l,h.bQ,h.dO⟩
 show N.B.o7++[(_,((N.s.R.length:Nat):Int))]=_
 rw[h.an,h.R,bD];rfl
theorem aiv(h:O0 N su o an [GA] 0 dO)(hd:y4 0 N (sE 3) N' y):y.err=0/\N'.bQ=1/\N'.l.length=1/\N'.n=2:=by
 unfold y4 at hd;rw[if_neg (by rw[QE];simp)]at hd;simp[sE]at hd;obtain⟨h1,h2⟩:=hd;have hb:=vM (N.bQ+1) N.l (N.at (N.bQ+1),[]);have h3:=FC (N.bQ+1) N.l (N.at (N.bQ+1),[]);have e:=hb.e
 have eT:lO N=({(N.l.foldl (Au (N.bQ+1)) (N.at (N.bQ+1),[])).1 with l:=(N.l.foldl (Au (N.bQ+1)) (N.at (N.bQ+1),[])).2},0):=by
  unfold lO;rw[if_neg (by rw[h.bQ];decide)]
 rw[eT]at h1 h2;have ec:((N.l.map λs=>(kX s (N.bQ+1)).1).filter λt=>decide (0<t.round)).length=1:=by rw[h.l,h.bQ];rfl
 generalize N.l.foldl (Au (N.bQ+1)) (N.at (N.bQ+1),[])=Z at*;refine⟨by rw[h2],?_,?_,?_⟩
 ·rw[h1];show Z.1.bQ=1;rw[e];show N.bQ+1=1;rw[h.bQ];rfl
 ·rw[h1];show Z.2.length=1;rw[h3];simpa using ec
 ·rw[h1];show Z.1.n=2;rw[e];exact h.n
variable {qt:Int}{N N':fw}{j k e:Nat}
variable{m:aD}
theorem Li{c:Rc}{w:Bk}{f:CV}(h1:c.ok=true)(h2:w.ok=true)(h3:c.jv<n):
  eN tP 25 [.a (Sq c w),i64 n,f] m [.v (.pointer none),i64 11]:=by
 refine enX c25 Tryz.func25 ?_
 first|refine fU (qk) ?_ |refine bt (qk) ?_
 conv=>whnf
 rw[h1,h2];refine xN ?_;apply bI<;>intro h
 ·exact rR
 apply bI<;>intro h
 ·exact rR
 ·exfalso
  have:=aj h;omega
theorem SO(h:Al qt r n j k e N):Al qt r n j k e N.AA:=by
 have hl:N.AA.B.dE.length<=N.B.dE.length:=bC _ _;have hb:y7 N N.AA 0:=⟨rfl,by omega⟩;exact⟨h.i.box hb,h.f,h.si.box hb,⟨bq hl h.z.o,h.z.an,h.z.bQ,h.z.dO⟩,h.w.box hb⟩
theorem Mk(h:Al qt r n j k e N):Al qt r n j k e N.uo:=by
 have hl:N.uo.B.o7.length<=N.B.o7.length:=bC _ _;have hb:y7 N N.uo 0:=⟨rfl,by show N.B.dE.length<=_;omega⟩;exact⟨h.i.box hb,h.f,h.si.box hb,⟨h.z.o,bq hl h.z.an,h.z.bQ,h.z.dO⟩,h.w.box hb⟩
theorem zt(hm:x.AB=fP)(hd:0<=x.dr/\x.dr<18446744073709551616):ON x:=by
 have h:=QC 3;exact⟨⟨by rw[hm];exact h.r.m,hd⟩,by rw[hm];exact h.s⟩
theorem FM(hm:x.AB=fP)(hd:0<=x.dr/\x.dr<18446744073709551616)(hk:x.key.size<=100):vC m x Nk:=
 (zt hm hd).at hk (by rw[hm];exact(B1 m 3).je)
theorem agX{α β:Type}{f:α->β}:∀{l:List α}{b:β},l.map f=[b]->∃r,l=[r]/\f r=b
 |[r],_,h=>⟨r,rfl,(List.cons.inj h).1⟩
 |[],_,h=>by cases h
 |_::_::_,_,h=>by cases(List.cons.inj h).2
theorem rG(hg:jZ m):bi tP 8 [] m λr m'=>r=[bR true]/\cL m m':=by
 have wo:(1:Int)<=3/\(3:Int)<=3:=by omega
 have JN:(1:Int)<=2/\(2:Int)<=3:=by omega
 refine enZ Tryz.func8 ?_;refine aP (Qk (q:=0) (by omega)) ?_;rintro _ m1⟨bf,pf,rfl,bM,hf⟩
 first|refine fU (yQ) ?_ |refine bt (yQ) ?_
 refine aP (Ql (n:=2) (r:=3) hg bM hf (by omega) (by omega) (by omega)) ?_;rintro _ m2⟨X,kc,p',q',rfl,hb,bZ,rO,kV,hI2⟩;obtain⟨lv,pr,ps,pf',pb,pl,R,hO⟩:=kV.op bZ;refine xN ?_;refine xN ?_;refine xN ?_
 first|refine fU (yg hO.o) ?_ |refine bt (yg hO.o) ?_
 refine xN ?_;have hA0:=SS hI2;refine aP (qm (x:=UV) (s:=Nk) (hg.sub rO) bZ kV (hA0.t wo JN) hA0.i (by omega) (by omega) (FM rfl (by decide) (by decide)) (by decide) (hA0.nz JN (by omega)) (by decide)) ?_;rintro _ m3⟨N1,y1,LW,qn⟩;obtain⟨p3,q3,ea1,ec1,la1,lc1,rfl,dy,EK,LQ,_⟩:=qn.ex;have Tg:=Ml hA0 wo JN (by omega) (by omega) (zt rfl (by decide)) LW;obtain⟨e1,e1',av1⟩:=ae3 LW;refine aP (Lh dy LQ (by have:=Tg.z.o;omega)) ?_;rintro _ m4⟨v4,p4,q4,R4,rfl,eP,Zx,hn4,hR4,hm4,_⟩;obtain⟨f4,av4⟩:=aiz av1;have hA4:=SO Tg;generalize N1.AA=N4 at*;refine aP (Hb eP hn4 (by have:=hA4.z.an;omega)) ?_;rintro _ m5⟨v5,p5,q5,R5,rfl,eD,NM,w6,hR5,hm5,_⟩;obtain⟨f5,av5⟩:=ae2 av4;have hA5:=Mk hA4;generalize N4.uo=N5 at*;have hg5:jZ q5:=((((hg.sub rO).sub EK).sub Zx).sub NM);refine aP (qm (x:=sE 6) (s:=Nk) hg5 eD w6 (hA5.t wo JN) hA5.i (by omega) (by omega) (B1 _ _) (by decide) (hA5.nz JN (by omega)) (by decide)) ?_;rintro _ m6⟨N6,y6,hd6,hr6⟩;obtain⟨p6,q6,ea6,ec6,la6,lc6,rfl,gC,Zw,I9,_⟩:=hr6.ex;have hA6:=Ml hA5 wo JN (by omega) (by omega) (zt rfl (by decide)) hd6;obtain⟨e6,av6⟩:=aiw av5 hd6;refine aP (Lh gC I9 (by have:=hA6.z.o;omega)) ?_;rintro _ m7⟨v7,p7,q7,R7,rfl,iU,hq7,hn7,hR7,hm7,_⟩;obtain⟨f7,av7⟩:=aiy av6;have hA7:=SO hA6;generalize N6.AA=N7 at*;refine aP (Hb iU hn7 (by have:=hA7.z.an;omega)) ?_;rintro _ m8⟨v8,p8,q8,R8,rfl,k8,Zv,JO,hR8,hm8,_⟩;obtain⟨f8,av8⟩:=ae1 av7;have hA8:=Mk hA7;generalize N7.uo=N8 at*;have hg8:jZ q8:=(((hg5.sub Zw).sub hq7).sub Zv);refine aP (qm (x:=UT) (s:=Nk) hg8 k8 JO (hA8.t wo JN) hA8.i (by omega) (by omega) (FM rfl (by decide) (by decide)) (by decide) (hA8.nz JN (by omega)) (by decide)) ?_;rintro _ m9⟨N9,y9,hd9,hr9⟩;obtain⟨p9,q9,ea9,ec9,la9,lc9,rfl,zv,hq9,tj,_⟩:=hr9.ex;have hA9:=Ml hA8 wo JN (by omega) (by omega) (zt rfl (by decide)) hd9;obtain⟨e9,o9,av9⟩:=aiA av8 hd9;have hg9:=hg8.sub hq9;refine aP (qm (x:=UT) (s:=Nk) hg9 zv tj (hA9.t wo JN) hA9.i (by omega) (by omega) (FM rfl (by decide) (by decide)) (by decide) (hA9.nz JN (by omega)) (by decide)) ?_;rintro _ m10⟨N10,y10,aqm,at5⟩
 obtain⟨p10,q10,aCl,aCh,azY,azU,rfl,nr,UY,NS,_⟩:=at5.ex;have ah1:=Ml hA9 wo JN (by omega) (by omega) (zt rfl (by decide)) aqm;obtain⟨e10,adw⟩:=ae0 av9 aqm;subst adw;have ap6:=hg9.sub UY;refine aP (qm (x:=ahe) (s:=Nk) ap6 nr NS (ah1.t wo JN) ah1.i (by omega) (by omega) (FM rfl (by decide) (by decide)) (by decide) (ah1.nz JN (by omega)) (by decide)) ?_;rintro _ m11⟨N11,y11,aql,at4⟩;obtain⟨p11,q11,aCk,aCg,azX,azT,rfl,u7,ald,alh,ap3⟩:=at4.ex;have alZ:=Ml ah1 wo JN (by omega) (by omega) (zt rfl (by decide)) aql;obtain⟨e11,aC3,awW⟩:=aix av9 aql;have auT:=ap6.sub ald;refine aP (qm (x:=sE 3) (s:=Nk) auT u7 alh (alZ.t wo JN) alZ.i (by omega) (by omega) (B1 _ _) (by decide) (alZ.nz JN (by omega)) (by decide)) ?_;rintro _ m12⟨N12,y12,au0,at3⟩;obtain⟨p12,q12,aCj,aCf,azW,azS,rfl,JJ,apF,adG,_⟩:=at3.ex;obtain⟨e12,avO,aq4,avN⟩:=aiv awW au0
 first|refine fU (Li (c:=vA 3) (w:=Rl) (n:=4) (by decide) (by decide) (by decide)) ?_ |refine bt (Li (c:=vA 3) (w:=Rl) (n:=4) (by decide) (by decide) (by decide)) ?_
 have avn:R4=[]:=zW.1 (hm4.trans f4);have avm:R5=[]:=zW.1 (hm5.trans f5);have avl:R7.length=2:=by rw[<-f7,<-hm7,aH]
 obtain⟨r8,avk,hr8⟩:=agX (hm8.trans f8);subst avn avm avk;obtain⟨aCa,aB6,azP⟩:=y11;simp only at e11;subst e11;obtain⟨⟨i8,r8e,l8⟩,s8⟩:=r8;simp only at hr8;cases hr8;obtain⟨a4,c4,rfl⟩:=hR4.shape;obtain⟨a5,c5,rfl⟩:=hR5.shape;obtain⟨a7,c7,rfl⟩:=hR7.shape;obtain⟨b8,o8,c8,rfl,hc8⟩:=hR8.real (i:=0) (by simp);obtain⟨b11,o11,c11,auO,alD⟩:=ap3.real (i:=0) (by simp);injection auO with eK _ fN;subst eK fN;have hc8:=hc8 0 (by simp);have alD:=alD 0 (by simp);have ahB:cL q11 m12:=apF.trans (JJ.sub);rw[avl];obtain⟨er1,⟨aB4,⟨aB3,aB1⟩,aB2⟩,ln1⟩:=y1;obtain⟨er6,ev6,ln6⟩:=y6;obtain⟨er9,ev9,ln9⟩:=y9;obtain⟨aCb,aB7,azQ⟩:=y10;obtain⟨aB9,aB5,azO⟩:=y12;simp only at e1 e1' e6 e9 e10 e12;subst e1 e1' e6 e9 e10 e12;refine xN ?_;refine xN ?_;refine xY ?_;refine xY ?_;refine xY ?_;refine xY ?_;refine xY ?_;refine⟨⟨by omega,by simp⟩,?_⟩;refine⟨_,fZ (j:=0) (hc8.sub (((hq9.trans UY).trans ald).trans ahB)) rfl,rfl,?_⟩;refine xY ?_;refine xY ?_;refine xY ?_;refine⟨⟨by omega,by simp⟩,?_⟩;refine⟨_,fZ (j:=1) (alD.sub ahB) rfl,rfl,?_⟩;refine xY ?_;refine xY ?_;obtain⟨lv,pr,ps,pf',pb,pl,R,hO⟩:=adG.op JJ
 first|refine fU (Lj hO.o) ?_ |refine bt (Lj hO.o) ?_
 conv=>whnf
 rw[avO];refine xY ?_;refine aP (A5 JJ adG (by rw[aq4];decide)) ?_;rintro _ m13⟨v13,q13,R13,rfl,NL,at7,Q7,atK,auz⟩;have avo:R13.length=1:=by rw[<-aq4,<-auz,aH]
 obtain⟨a13,c13,rfl⟩:=atK.shape;rw[avo];refine xY ?_;refine xY ?_;obtain⟨lv2,pr2,ps2,Va,pb2,pl2,R2,hO2⟩:=Q7.op NL
 first|refine fU (BW hO2.o) ?_ |refine bt (BW hO2.o) ?_
 conv=>whnf
 rw[avN];refine xY ?_
 first|refine fU (qk (c:=vA 3) (w:=Rl)) ?_ |refine bt (qk (c:=vA 3) (w:=Rl)) ?_
 refine⟨rfl,?_⟩;exact rO.trans (EK.trans (Zx.trans (NM.trans (Zw.trans (hq7.trans (Zv.trans (hq9.trans (UY.trans (ald.trans (apF.trans (at7.trans (NL.sub))))))))))))
variable {mm m p q:aD}{X:Jg}{N:fw}{j k e:Nat}{n:Int}
variable {m:aD}{n:Int}
theorem aro{qt:Int}{N:fw}{j k e j' k' e':Nat}(h:Al qt r n j k e N)(hj:j<=j')(hk:k<=k')(he:e<=e'):Al qt r n j' k' e' N:=
 ⟨h.i.up hj hk,h.f,h.si,⟨by have:=h.z.o;omega,by have:=h.z.an;omega,by have:=h.z.bQ;omega,by have:=h.z.dO;omega⟩,h.w⟩
theorem agF{O:List O31}(hv:V9 m v O)(hi:i<O.length):∃b o c,v= .slice (some ⟨b,o,none⟩) O.length c/\gR m b (o+i*49)=some (.int .i64 O[i].kind)/\dQ m b (o+i*49+1) (LB.cz (O[i].x.L O[i].s)):=by
 obtain⟨b,o,c,e,hg⟩:=hv.el i hi;refine⟨b,o,c,e,fZ (j:=0) (hg i hi) rfl,?_⟩;obtain⟨arr,t,fr,g1,g2⟩:=hg i hi;refine⟨arr,t,fr,g1,λjj u hu=>?_⟩
 have:=g2 (1+jj) u (by
  show(Value.int .i64 O[i].kind::LB.cz (O[i].x.L O[i].s++[.one O[i].dO]))[1+jj]?=some u
  rw[uG 1 jj,Fv,LB.jW,aT (aQ.1 hu).1]
  exact hu)
 rw[show o+i*49+1+jj=o+i*49+(1+jj) by omega];exact this
variable {m:aD}{n:Int}
theorem aoe(N:fw):N.Nb.length<=N.B.dE.length:=by
 show((N.B.dE.filter _).map _).length<=_
 rw[aH];exact bC _ _
theorem auX(x:gX)(s:iS):(Yc.enc (x,s))[39]?=some (.slice s.c.1 x.ca.length s.c.2):=by
 have hd:(p32 x.jI).length=32:=M9 _
 have e1:Yc.enc (x,s)=(LB.cz [.one (.int .i64 x.kind),.one (.int .i64 x.fr),.one (.int .i64 x.qe),.one (.int .i64 x.qA),.one (.int .i64 x.part),.bG .u8 32 (nc (p32 x.jI))])++[.slice s.p.1 x.pl.length s.p.2,.slice s.d.1 x.dg.length s.d.2,.slice s.c.1 x.ca.length s.c.2]:=by
  show LB.cz (gX.L _ s)=_
  simp[LB.cz,eB.cells]
 rw[e1,bJ (by simp[LB.cz,eB.cells,hd])];simp[LB.cz,eB.cells,hd]
variable {m:aD}{n:Int}
theorem afm{vl:Value}{O:List O31}{dO:List Int}(hg:jZ m)(hv:V9 m v O)(hO:O.length<=9223372036854775807)(hn: -9223372036854775808<=n/\n<=9223372036854775807)(hl:Ia m vl dO)(Q9:dO.length<=9223372036854775807)(hI:∀x∈dO,-9223372036854775808<=x/\x<=9223372036854775807):
  bi tP 6 [i64 n,.v v,.v vl] m λr m'=>r=[bR true]/\cL m m':=by
 obtain⟨av,cv,rfl⟩:=hv.sh;refine enZ Tryz.func6 ?_;conv=>whnf
 refine aP (NY hv hO) ?_;rintro _ m⟨g,rfl,hm,Xe⟩;conv=>whnf
 subst hm;apply bI<;>intro h
 ·conv=>whnf
  refine aP (rG hg) ?_;rintro _ m1⟨rfl,bM⟩;conv=>whnf
  exact⟨rfl,bM⟩
 conv=>whnf
 apply bI<;>intro h1
 ·conv=>whnf
  refine aP (rG hg) ?_;rintro _ m1⟨rfl,bM⟩;conv=>whnf
  exact⟨rfl,bM⟩
 conv=>whnf
 apply bI<;>intro h3
 ·conv=>whnf
  refine aP (rG hg) ?_;rintro _ m1⟨rfl,bM⟩;conv=>whnf
  exact⟨rfl,bM⟩
 have Q7:1<=n/\n<=3:=by
  have:=aj h1;have:=aj h3;omega
 have B8:=Xe h;conv=>whnf
 refine aP (OF (qt:=0) hg (by omega) Q7) ?_;rintro _ m1⟨X,kc,p1,q1,rfl,bM,mQ,hN1,hI1⟩;conv=>whnf
 have Tg:=SS hI1;have hW1:LA (N0 2 n kc):=ajY;refine xN ?_;conv=>whnf
 have aBA:=B8.1;refine .mk (ι:=Nat×Value) (λi=>40-i.1) (λ⟨i,w⟩ m'=>i<=O.length/\∃p' q' N',aq m' [p',q']/\cL m q'/\y0 p' q' X 0 N'/\Al 0 2 n (31*i) (2+4*i) (2*i) N'/\LA N'/\lu q' w (N'.s.pre N'.s.cY)) (λ⟨i,w⟩=>[(0,.c (i64 n)),(1,.c (.v (.slice av O.length cv))),(2,.c (.v vl)),(7,.c (cx X.a)),(8,.c (fy X.bf)),(9,.c (.v w)),(10,.c (i64 i))]) (λ_=>[]) (0,.slice none 0 0) ⟨by omega,p1,q1,_,bM,mQ,hN1,Tg,hW1,lu.nil _⟩ ?_ ?_
 ·conv=>whnf
  exact Ra
 rintro⟨i,w⟩ m2 ⟨hi,p2,q2,N1,bZ,rO,hN2,Tg,hW1,hS2⟩;have wq:=rO.trans (bZ.sub (a:=q2));have aze:N1.s.cY<=N1.s.R.length:=Tg.i.fi.su;conv=>whnf
 apply bI<;>intro h;rotate_left
 ·clear h
  obtain⟨lv,pr,ps,pf,pb,pl,R,hO2⟩:=hN2.op bZ;have hpf:aq m2 [pf,q2]:=hO2.sp.ir [3,6];have hfs:=hO2.f.fB;have hIs:=Tg.i.sm (by omega) (by omega);have hrl:=Tg.i.rl;have hgg:=Tg.i.g;obtain⟨g,P,RR,K,hL⟩:=ajV hW1 Tg.i.fi hfs dO;have hL1:=hL.l;have hL2:=hL.gs;have hL3:=hL.k;have hL4:6700*(N1.s.P.length+N1.s.R.length)<=6700*(31*i):=iV _ hrl;have hSg:=afl (s:=N1.s) (i:=N1.s.cY) Tg.i.fi.gp Tg.i.fi.gr;conv=>whnf
  refine aP (apY (dO:=dO) hO2.f hpf hIs (hl.sub rO) Q9 hI) ?_;rintro _ m3⟨pf3,rfl,dy,hf3⟩;conv=>whnf
  first|refine fU (yQ) ?_ |refine bt (yQ) ?_
  conv=>whnf
  refine aP (Uw (n:=n) (kk:=1000) (c:=vA 2) (w:=Rl) (hg.sub rO) dy hf3 (ajv Tg.i (by omega) (by omega) dO) (ajz hfs dO Tg.i.nm) hL.c (by omega) (by omega) (by omega) (by omega) (by decide) (by decide) ⟨Q7.1,by show n<=3;omega⟩) ?_;rintro _ m4⟨Y,ns4,A4,p4,q4,rfl,OV,eP,Zx,hN4,hf4,auo,aEA,_⟩;conv=>whnf
  obtain⟨lv4,pr4,ps4,pf4,pb4,pl4,R4,hO4⟩:=hN4.op eP;obtain⟨bl5,lv5,sv5,AF⟩:=hO4.sr;have hll:=abN (agR (vA 2) Rl n (kb g P RR K) A4 0 ns4).s;refine xN ?_;conv=>whnf
  refine xN ?_;conv=>whnf
  first|refine fU (yg hO4.o) ?_ |refine bt (yg hO4.o) ?_
  conv=>whnf
  refine xN ?_;conv=>whnf
  first|refine fU (yg hO4.o) ?_ |refine bt (yg hO4.o) ?_
  conv=>whnf
  have hlo:(kb g P RR K).L.length<=1300:=by
   have:=abN (kb g P RR K);have h2:(kb g P RR K).R.length<=RR.length:=List.length_take_le' ..;have h3:(kb g P RR K).P=P:=rfl;rw[h3]at this;omega
  refine aP (TT AF (bq hlo (by decide)) (λx hx=>by have:=pj (hL.gl x hx).r;omega)) ?_;rintro _ m5⟨mv,rfl,hv5,eD⟩;conv=>whnf
  obtain⟨R5,hR5,hK5⟩:=id hS2;have aBm:=hK5.len;obtain⟨a5,c5,rfl⟩:=hR5.shape;have NM:cL q2 m5:=(Zx.trans (eP.sub)).trans eD;refine .mk (ι:=Nat) (λk=>R5.length-k) (λk mm=>k<=R5.length/\cL m5 mm) (λk=>[(9,.c (.v (.slice a5 R5.length c5))),(16,.c (.v mv)),(17,.c (i64 k))]) (λ_=>[]) 0 ⟨by omega,cL.refl _⟩ ?_ ?_
  ·conv=>whnf
   exact Ra
  rintro k m6⟨hk,gC⟩;conv=>whnf
  apply bI<;>intro h;rotate_left
  ·conv=>whnf
   refine aP (rG (hg.sub ((rO.trans NM).trans gC))) ?_;rintro _ m7⟨rfl,iU⟩;conv=>whnf
   exact⟨rfl,((rO.trans NM).trans gC).trans iU⟩
  have hk5:k<R5.length:=by have:=ah h;omega
  have Xd:k<(N1.s.pre N1.s.cY).length:=by omega
  have CU:=ahz (s:=N1.s) (i:=N1.s.cY);have hkb:k<=5000:=by omega
  obtain⟨b8,o8,c8,e8,hg8⟩:=hR5.real hk5;have hg8:=hg8 k hk5;injection e8 with e81 _ e83;subst e81 e83;have hx8:=hK5.je k hk5 Xd;have DM:=aO Xd;have hc2:=hSg _ DM;have hc1:=hL.u (N1.s.pre N1.s.cY)[k].1;rw[afK (N1.s.aoc _) DM]at hc1;rw[<-el8 hx8]at hg8;have FO:=hx8.e;rw[hx8.len]at FO;have OQ:=hx8.u8;generalize (N1.s.pre N1.s.cY)[k]=c at*;generalize R5[k]=r8 at*;conv=>whnf
  repeat (refine xS ?_;conv=>whnf)
  refine⟨[.one (.string c.1),.bG .u64 8 c.2.1,.one (.slice r8.2.2.1 c.2.2.length r8.2.2.2.2)],⟨rfl,OQ,rfl,trivial⟩,rfl,by simp only[bK,aA];exact hg8.sub (NM.trans gC),?_⟩;conv=>whnf
  refine aP (adI ((hg.sub ((rO.trans NM).trans gC)).j8) (hv5.sub gC) hL.gl (bq hlo (by decide)) hc2 (FO.sub (NM.trans gC)) hc1) ?_;rintro _ m7⟨rfl,iU⟩;conv=>whnf
  refine xN ?_;conv=>whnf
  refine⟨k+1,⟨by omega,gC.trans iU⟩,by omega,?_⟩;conv=>whnf
  exact Ra
 have bH:i<O.length:=by have:=ah h;omega
 obtain⟨b5,o5,c5,e5,hk5,hx5⟩:=agF (hv.sub wq) bH;injection e5 with e51 _ e53;subst e51 e53;have ez:=hv.ok O[i] (aO bH);have aho:=B8.2 O[i] (aO bH);generalize O[i]=op at*;conv=>whnf
 repeat (refine xS ?_;conv=>whnf)
 refine xL (hk5) ?_;conv=>whnf
 refine⟨λh=>?a1,λh=>?a2⟩
 case' a1=>
  conv=>whnf
  repeat (refine xS ?_;conv=>whnf)
  refine⟨op.x.L op.s,WW ez.a.Th,rfl,by simp only[bK,aA];exact hx5,?_⟩;conv=>whnf
  refine aP (qm (x:=op.x) (s:=op.s) (hg.sub rO) bZ hN2 (Tg.t (by omega) Q7) Tg.i (by omega) (by omega) (ON.at ⟨ez.r,aho.2⟩ aho.1 (ez.a.sub rO)) aho.2.c.1 (Tg.nz Q7 (by omega)) ez.r.d) ?_;rintro _ m2⟨N2,y,hd,hr⟩;conv=>whnf
  obtain⟨hW2,hE⟩:=avi hW1 Tg.i (Tg.t (by omega) Q7) (by omega) ⟨ez.r,aho.2⟩ hd;have Rr:=aro (Ml Tg (by omega) Q7 (by omega) (by omega) ⟨ez.r,aho.2⟩ hd) (j':=31*i+31) (k':=2+4*i+2) (e':=2*i+1) (by omega) (by omega) (by omega);obtain⟨p2,q2,_,_,_,_,rfl,bZ,EK,hN2,_⟩:=hr.ex;have hS2:=hS2.sub EK;have rO:=rO.trans EK
 case' a2=>
  conv=>whnf
  obtain⟨N2,hN⟩:∃N2,N2=N1:=⟨_,rfl⟩;have hW2:LA N2:=by rw[hN];exact hW1
  have hE:Ext N1.s N2.s\/N2.s.cY=N2.s.R.length:=.inl (.of (by rw[hN]));have Rr:Al 0 2 n (31*i+31) (2+4*i+2) (2*i+1) N2:=by rw[hN];exact aro Tg (by omega) (by omega) (by omega)
  rw[<-hN]at hN2
 all_goals
  obtain⟨lv,pr',ps,pf,pb,pl,R,hO2⟩:=hN2.op bZ;obtain⟨bl,lv2,sv,AF⟩:=hO2.sr;have hll:=Rr.i.ll;have hgl:=Rr.i.gl
  first|refine fU (yg hO2.o) ?_ |refine bt (yg hO2.o) ?_
  conv=>whnf
  first|refine fU (TN AF) ?_ |refine bt (TN AF) ?_
  conv=>whnf
  apply bI<;>intro h
  case' _=>
   have h0:=ah h;conv=>whnf
   first|refine fU (yg hO2.o) ?_ |refine bt (yg hO2.o) ?_
   conv=>whnf
   refine aP (xQ AF (by omega) (λx hx=>by have:=pj (hgl x hx).r;omega)) ?_;rintro _ m2⟨w,p3,rfl,dy,hS2⟩;conv=>whnf
   obtain⟨q3,EK,UZ,LQ⟩:=hO2.up dy;obtain⟨p2,bZ,hN2⟩:=LQ.cl;have hS2:lu q3 w (N2.s.pre N2.s.cY):=by rw[h0,jf.adv];exact hS2.sub UZ
   have rO:=rO.trans EK
  rotate_left
  case' _=>
   have h0:=aj h;conv=>whnf
   obtain⟨q3,EK⟩:∃q3,q3=q2:=⟨_,rfl⟩;rw[<-EK]at bZ rO hN2 hS2;have hS2:lu q3 w (N2.s.pre N2.s.cY):=by rw[ajy (hE.resolve_right h0) aze];exact hS2
  all_goals
   refine aP (Lh bZ hN2 (by have:=Rr.z.o;omega)) ?_;rintro _ m4⟨v4,p4,q4,R4,rfl,eP,Zx,hN4,hR4,hm4,azV⟩;conv=>whnf
   have hO4:=aoi hW2 Rr.i.fi.su
   have aEX:R4.length<=300:=by
    have h1:=be List.length hm4;rw[aH]at h1;have h2:=aoe N2;have h3:=Rr.z.o;omega
   rw[<-hm4]at hO4;obtain⟨a4,c4,rfl⟩:=hR4.shape;have hSg:=afl (s:=N2.s) (i:=N2.s.cY) Rr.i.fi.gp Rr.i.fi.gr;have hSl:=ahz (s:=N2.s) (i:=N2.s.cY);have hrl:=Rr.i.rl;have hS4:=hS2.sub Zx;have NO:=rO.trans Zx;refine .mk (ι:=Nat) (λk=>R4.length-k) (λk mm=>k<=R4.length/\aq mm [p4,q4]) (λk=>[(0,.c (i64 n)),(1,.c (.v (.slice (some ⟨b5,o5,none⟩) O.length cv))),(2,.c (.v vl)),(7,.c (cx X.a)),(8,.c (fy X.bf)),(9,.c (.v w)),(10,.c (i64 i)),(11,.c (.v (.slice a4 R4.length c4))),(12,.c (i64 k))]) (λ_=>[]) 0 ⟨by omega,eP⟩ ?_ ?_
   ·conv=>whnf
    exact Ra
   rintro k m5⟨hk,eD⟩;conv=>whnf
   apply bI<;>intro h;rotate_left
   ·conv=>whnf
    refine⟨(i+1,w),⟨by omega,p4,q4,N2.AA,eD,NO,hN4,aro (SO Rr) (by omega) (by omega) (by omega),ajJ hW2,hS4⟩,by simp only;omega,?_⟩;conv=>whnf
    exact Ra
   have Xd:k<R4.length:=by have:=ah h;omega
   obtain⟨b6,o6,c6,e6,hg6⟩:=hR4.real Xd;injection e6 with e61 _ e63;subst e61 e63;have hg6:=hg6 k Xd;have hMk:=azV R4[k] (aO Xd);obtain⟨hOk,hrm⟩:=hO4 R4[k].1 (aV.2 ⟨R4[k],aO Xd,rfl⟩);have hcn:=aaV (nD hrm).ca;generalize R4[k]=r at*;obtain⟨x,s⟩:=r;simp only at hMk hOk hcn;obtain⟨R8,hR8,hK8⟩:=hMk.ca;have aBl:=hK8.len;have h39:∀{mm:aD},aq mm [p4,q4]->gR mm b6 (o6+k*40+39)=some (.slice s.c.1 x.ca.length s.c.2):=λhs=>fZ (hg6.sub (hs.sub (a:=q4))) (auX x s);generalize bM:s.c.1=sa at*;generalize bZ:s.c.2=sc at*;conv=>whnf
   refine .mk (ι:=Nat) (λj=>R8.length-j) (λj mm=>j<=R8.length/\aq mm [p4,q4]) (λj=>[(0,.c (i64 n)),(1,.c (.v (.slice (some ⟨b5,o5,none⟩) O.length cv))),(2,.c (.v vl)),(7,.c (cx X.a)),(8,.c (fy X.bf)),(9,.c (.v w)),(10,.c (i64 i)),(11,.c (.v (.slice (some ⟨b6,o6,none⟩) R4.length c4))),(12,.c (i64 k)),(13,.c (i64 j))]) (λ_=>[]) 0 ⟨by omega,eD⟩ ?_ ?_
   ·conv=>whnf
    exact Ra
   rintro j m6⟨hj,gC⟩;conv=>whnf
   repeat (refine xS ?_;conv=>whnf)
   refine⟨_,by simp only[bK,aA];exact h39 gC,rfl,?_⟩;conv=>whnf
   apply bI<;>intro h;rotate_left
   ·conv=>whnf
    refine⟨k+1,⟨by omega,gC⟩,by omega,?_⟩;conv=>whnf
    exact Ra
   have EN:j<x.ca.length:=by have:=ah h;omega
   have hj8:j<R8.length:=by omega
   obtain⟨b8,o8,c8,e8,hg8⟩:=hR8.real hj8;have hg8:=hg8 j hj8;injection e8 with e81 _ e83;subst e81 e83;have hx8:=hK8.je j hj8 EN;obtain⟨hc1,hc2⟩:=hOk x.ca[j] (aO EN);rw[<-el8 hx8]at hg8;have FO:=hx8.e;rw[hx8.len]at FO;have OQ:=hx8.u8;generalize x.ca[j]=c at*;generalize R8[j]=r8 at*;conv=>whnf
   repeat (refine xS ?_;conv=>whnf)
   refine⟨_,by simp only[bK,aA];exact h39 gC,rfl,?_⟩;conv=>whnf
   repeat (refine xS ?_;conv=>whnf)
   refine⟨[.one (.string c.1),.bG .u64 8 c.2.1,.one (.slice r8.2.2.1 c.2.2.length r8.2.2.2.2)],⟨rfl,OQ,rfl,trivial⟩,rfl,by simp only[bK,aA];exact hg8.sub (gC.sub (a:=q4)),?_⟩;conv=>whnf
   refine aP (adI ((hg.sub NO).j8.sub (gC.sub)) (hS4.sub (gC.sub)) hSg (by omega) hc2 (FO.sub (gC.sub)) hc1) ?_;rintro _ m7⟨rfl,iU⟩;conv=>whnf
   refine xN ?_;conv=>whnf
   refine⟨j+1,⟨by omega,gC.grow iU⟩,by omega,?_⟩;conv=>whnf
   exact Ra
end Go.E.Y
namespace Go.E
theorem Yg{H:Type}{enc:TypeId×Value->H}{P:Program}{w:World}{gM:Nat}{qg:Nat->Bool}{DR:Bool}{kJ:Nat}{t e:TypeId}{cs:List Value}{n:Nat}{k:IntKind}{zs:List Int}{p:List MemPlace}(ht:P.underlying t=some (.array n e))(he:P.underlying e=some (.int k))(hc:P.cellsOf e=1)(hct:P.cellsOf t=n)
  (h:DataW.trod enc P w gM qg DR kJ t cs=some (.agg (zs.map λz=>.lit (.int k z)),p)):cs=zs.map λz=>Value.int k z:=by
 obtain⟨xs,m,_,ex,hl,hn,xz⟩:=DataW.trod_array ht h;rw[hct]at hl;have e1:xs.map (·.1)=zs.map λz=>.lit (.int k z):=(DataW.agg.inj (Prod.mk.inj ex).1).symm;have hz:zs.length=n:=by have:=be List.length e1;simp at this;omega
 refine List.ext_getElem? λi=>?_;by_cases hi:i<n
 ·have h1:=xz i hi
  rw[hc,eG,az (by omega)]at h1;obtain⟨z,f1,f2,_⟩:=DataW.trod_int he h1;have e4:(xs.map (·.1))[i]?=(zs.map λz=>(DataW.lit (.int k z):DataW H))[i]?:=by rw[e1]
  rw[cj,cj,az (by omega:i<xs.length),az (by omega:i<zs.length),f2]at e4;have FN:z=zs[i]:=by simpa using e4
  have h0:((cs.drop i).take 1)[0]?=some (.int k z):=by rw[f1];rfl
  rw[cj,az (by omega:i<zs.length),<-FN];simpa using h0
 ·rw[jr (by omega),jr (by simp;omega)]
theorem Ge{H:Type}{enc:TypeId×Value->H}{P:Program}{w:World}{gM:Nat}{qg:Nat->Bool}{kJ:Nat}{t:TypeId}{cs:List Value}{ms:_}{name:String}{d:DataW H}{p:List MemPlace}(ht:P.underlying t=some (.interface ms))
  (h:DataW.trod enc P w gM qg false kJ t cs=some (.iface name d,p)):∃u v,cs=[.iface u v]:=by
 cases kJ with
 |zero=>simp[DataW.trod]at h
 |succ m=>
  unfold DataW.trod at h;rw[ht]at h
  split at h<;>simp_all
theorem F8{P:Program}{W:World}{name:String}{g:Nat}{cs:Array Value}(hg:P.globalNamed name=some g)(h:W.var? P name=some cs):∃T fr,W.heap[g]?=some (.cells cs T fr):=by
 unfold World.var? at h;rw[hg]at h;simp only[Option.bind_some]at h
 split at h
 ·rename_i arr T fr hb
  injection h with h;subst h
  exact⟨T,fr,hb⟩
 ·cases h
end Go.E
namespace Go.E.Y
open Go.Proofs
theorem ad5{W:World}(h:laidMetH Tryz.prog [("math/bits.deBruijn32tab",Go.Proofs.YtikipjbkjcefbaaGreatDoor.Rows.laid_math_bits_deBruijn32tab),("math/bits.deBruijn64tab",Go.Proofs.YtikipjbkjcefbaaGreatDoor.Rows.laid_math_bits_deBruijn64tab),("internal/strconv.uint64pow10",Go.Proofs.YtikipjbkjcefbaaGreatDoor.Rows.laid_internal_strconv_uint64pow10),("strconv.ErrRange",Go.Proofs.YtikipjbkjcefbaaGreatDoor.Rows.laid_strconv_ErrRange),("strconv.ErrSyntax",Go.Proofs.YtikipjbkjcefbaaGreatDoor.Rows.laid_strconv_ErrSyntax)] W):jZ (λb=>W.heap[b]?):=by
 rw[MakeChecks.laidMetH_plain _ _ _ (by kernel_rfl)]at h;obtain⟨ps,hl,_,_⟩:=h;obtain⟨g1,t1,c1,f1,p1,q1,Ag,Fa,lZ,LW,hl,_⟩:=hl;obtain⟨g2,t2,c2,f2,p2,q2,hg2,JI,lD,hd2,hl,_⟩:=hl;obtain⟨g3,t3,c3,f3,p3,q3,hg3,W5,tX,hd3,hl,_⟩:=hl;obtain⟨g4,t4,c4,f4,p4,q4,hg4,W4,QZ,hd4,hl,_⟩:=hl;obtain⟨g5,t5,c5,f5,p5,q5,hg5,W3,hv5,hd5,hl,_⟩:=hl;obtain rfl:=eL (aqU.symm.trans hg3);obtain rfl:=eL (aqW.symm.trans hg4);obtain rfl:=eL (aqV.symm.trans hg5);obtain⟨T3,r3,fN⟩:=F8 hg3 tX;obtain⟨T4,r4,hh4⟩:=F8 hg4 QZ;obtain⟨T5,r5,hh5⟩:=F8 hg5 hv5;obtain rfl:=eL ((show(Tryz.prog.globals[1]?).map (·.type)=some 518 by kernel_rfl).symm.trans W5);obtain rfl:=eL ((show(Tryz.prog.globals[3]?).map (·.type)=some 386 by kernel_rfl).symm.trans W4);obtain rfl:=eL ((show(Tryz.prog.globals[2]?).map (·.type)=some 386 by kernel_rfl).symm.trans W3);have k3:=Yg (zs:=Lib.pow10Tab) Tryz.underlying518 Tryz.underlying31 (by kernel_rfl) (by kernel_rfl) hd3;obtain⟨u4,w4,k4⟩:=Ge Tryz.underlying386 hd4;obtain⟨u5,w5,k5⟩:=Ge Tryz.underlying386 hd5;refine⟨⟨u5,w5,T5,r5,?_⟩,⟨u4,w4,T4,r4,?_⟩,⟨T3,r3,?_⟩⟩
 ·rw[hh5,<-iw (xs:=c5),k5]
 ·rw[hh4,<-iw (xs:=c4),k4]
 ·rw[fN,<-iw (xs:=c3),k3]
end Go.E.Y
