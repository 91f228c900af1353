import Derived.Test.YtikipjbkjcefbaaGreatDoorNodeOwnsZ4
import Derived.Tactics
import Derived.Tactics2
import Derived.Defers
import Derived.Laws.Pointers
import Derived.RegionTactic
import Derived.RegionCalls
import Derived.ChangeAlike
set_option maxHeartbeats 40000000
set_option maxRecDepth 100000
set_option linter.unusedVariables false
namespace Go.E.Y
open Go.Proofs
section
variable {mm p q:aD}{b:Nat}{B:kf}
theorem P8(hs:aq mm [p,q])(hB:y5 p q b B)(hl:B.dE.length<=1000)(Td:B.o7.length<=1000):
  bi tP 100 [cx b] mm λr m'=>r=[]/\∃p',aq m' [p',q]/\y5 p' q b B.shift:=by
 obtain⟨vo,va,fQ,po,pa,RO,RA,hB⟩:=hB;obtain⟨ao,co,rfl⟩:=hB.o.el.shape;obtain⟨aa,ca,rfl⟩:=hB.a.el.shape;have bM:aq mm [blk1 b (ik (.slice ao RO.length co) (.slice aa RA.length ca) fQ),po,pa,q]:=hs.tQ hB.sp;have hb:mm b=some (ik (.slice ao RO.length co) (.slice aa RA.length ca) fQ):=bM.get (a:=blk1 b (ik (.slice ao RO.length co) (.slice aa RA.length ca) fQ)) (by simp) (aG ..);have hol:RO.length=B.dE.length:=by rw[<-hB.eo,aH]
 have Rp:RA.length=B.o7.length:=by rw[<-hB.ea,aH]
 refine ub Tryz.func100 ?_;refine xN ?_;refine xM hb ?_;refine .mk (ι:=Nat) (λi=>RO.length-i) (λi mm=>i<=RO.length/\∃po pa,aq mm [blk1 b (ik (.slice ao RO.length co) (.slice aa RA.length ca) fQ),po,pa,q]/\Gw E5 po (.slice ao RO.length co) (tf (λr:Rhm=>(r.1,(0:Int))) RO i)/\Gw Gd pa (.slice aa RA.length ca) RA) (λi=>[(0,.c (cx b)),(10,.c (i64 RO.length)),(11,.c (i64 i))]) (λ_=>[]) 0 ⟨by omega,po,pa,bM,by rw[C7];exact hB.o,hB.a⟩ ?_ ?_
 ·exact Cr
 rintro i mm⟨hi,po,pa,bM,hp,hpa⟩;apply bI<;>intro h
 ·have h':=ah h
  have bH:i<RO.length:=by omega
  have hb:mm b=some (ik (.slice ao RO.length co) (.slice aa RA.length ca) fQ):=bM.get (a:=blk1 b (ik (.slice ao RO.length co) (.slice aa RA.length ca) fQ)) (by simp) (aG ..);have hzl:=BG (λr:Rhm=>(r.1,(0:Int))) RO i;have hza:(tf (λr:Rhm=>(r.1,(0:Int))) RO i)[i]?=some RO[i]:=by rw[az (by omega),Fy _ _ bH]
  have hzn:=ze (λr:Rhm=>(r.1,(0:Int))) RO bH;generalize tf (λr:Rhm=>(r.1,(0:Int))) RO i=Z at hp hzl hza hzn;have DP:i<Z.length:=by omega
  rw[az DP,aM]at hza;obtain⟨bl,ol,c',hh,hg⟩:=hp.el.ea.real DP;injection hh with eK _ fN;subst eK;obtain⟨arr,ZM,ZL,ha3⟩:=Sa.setCell (u:=.int .i64 0) (x:=(RO[i].1,(0:Int))) (j:=40) hp DP (by decide) (by rw[hza];simp[Cp,yN.len,List.take_left' (yN.len _)]);have hmb:mm bl=some (.cells arr 280):=bM.sub (a:=po) (by simp) _ _ ZM;refine xM hb ?_;refine⟨⟨by omega,by omega⟩,?_⟩;refine⟨_,_,_,hmb,⟨by simpa [bK]using ZL,by simp⟩,?_⟩;have bZ:=bM.gu (i:=1) rfl ZM (.cells (arr.setIfInBounds (ol+i*41+40) (.int .i64 0)) 280);refine⟨i+1,⟨by omega,_,pa,by simpa [bK]using bZ,by rw[hzn];exact ha3,hpa⟩,by omega,?_⟩;exact Cr
 have h':=aj h;obtain rfl:i=RO.length:=by omega
 rw[F9]at hp;have hb:mm b=some (ik (.slice ao RO.length co) (.slice aa RA.length ca) fQ):=bM.get (a:=blk1 b (ik (.slice ao RO.length co) (.slice aa RA.length ca) fQ)) (by simp) (aG ..);refine xM hb ?_;refine .mk (ι:=Nat) (λi=>RA.length-i) (λi mm=>i<=RA.length/\∃po pa,aq mm [blk1 b (ik (.slice ao RO.length co) (.slice aa RA.length ca) fQ),po,pa,q]/\Gw E5 po (.slice ao RO.length co) (RO.map λr=>(r.1,(0:Int)))/\Gw Gd pa (.slice aa RA.length ca) (tf (λr:Rha=>(r.1,(0:Int))) RA i)) (λi=>[(0,.c (cx b)),(26,.c (i64 RA.length)),(27,.c (i64 i))]) (λ_=>[]) 0 ⟨by omega,po,pa,bM,hp,by rw[C7];exact hpa⟩ ?_ ?_
 ·exact Cr
 rintro i mm⟨hi,po,pa,bM,hp,hpa⟩;apply bI<;>intro h
 ·have h':=ah h
  have bH:i<RA.length:=by omega
  have hb:mm b=some (ik (.slice ao RO.length co) (.slice aa RA.length ca) fQ):=bM.get (a:=blk1 b (ik (.slice ao RO.length co) (.slice aa RA.length ca) fQ)) (by simp) (aG ..);have hzl:=BG (λr:Rha=>(r.1,(0:Int))) RA i;have hza:(tf (λr:Rha=>(r.1,(0:Int))) RA i)[i]?=some RA[i]:=by rw[az (by omega),Fy _ _ bH]
  have hzn:=ze (λr:Rha=>(r.1,(0:Int))) RA bH;generalize tf (λr:Rha=>(r.1,(0:Int))) RA i=Z at hpa hzl hza hzn;have DP:i<Z.length:=by omega
  rw[az DP,aM]at hza;obtain⟨bl,ol,c',hh,hg⟩:=hpa.el.ea.real DP;injection hh with eK _ fN;subst eK;obtain⟨arr,ZM,ZL,ha3⟩:=Sb.setCell (u:=.int .i64 0) (x:=(RA[i].1,(0:Int))) (j:=3) hpa DP (by decide) (by rw[hza];simp[Is,It.len,List.take_left' (It.len _)]);have hmb:mm bl=some (.cells arr 282):=bM.sub (a:=pa) (by simp) _ _ ZM;refine xM hb ?_;refine⟨⟨by omega,by omega⟩,?_⟩;refine⟨_,_,_,hmb,⟨by simpa [bK]using ZL,by simp⟩,?_⟩;have bZ:=bM.gu (i:=2) rfl ZM (.cells (arr.setIfInBounds (ol+i*4+3) (.int .i64 0)) 282);refine⟨i+1,⟨by omega,po,_,by simpa [bK]using bZ,hp,by rw[hzn];exact ha3⟩,by omega,?_⟩;exact Cr
 have h':=aj h;obtain rfl:i=RA.length:=by omega
 rw[F9]at hpa;obtain⟨iU,k8⟩:=aq.k9 [blk1 b (ik (.slice ao RO.length co) (.slice aa RA.length ca) fQ),po,pa] (l:=[q]) bM;refine⟨rfl,_,iU,_,_,fQ,po,pa,_,_,k8,hp,hpa,?_,?_,?_,?_⟩
 ·rw[kf.shift,<-hB.eo,fS,fS];rfl
 ·rw[kf.shift,<-hB.ea,fS,fS];rfl
 ·intro r hr
  obtain⟨x,hx,rfl⟩:=aV.1 hr;exact hB.ho x hx
 ·intro r hr
  obtain⟨x,hx,rfl⟩:=aV.1 hr;exact hB.ha x hx
end
abbrev Pt:=Int×Int
def R0(p:Pt):List Value:=[.int .u64 p.1,.int .i64 p.2]
theorem Co:fp R0 2:=⟨λ_=>rfl,λx u hu=>by simp[R0]at hu;rcases hu with rfl|rfl<;>rfl,by decide⟩
def vX(a b:Pt):Bool:=decide (a.1<b.1\/(a.1=b.1/\a.2<b.2))
def Et(a b:Pt):Int:=Qb [sP a.1 b.1,sP a.2 b.2]
structure Rc where
 jv:Int
 (AO:Int)
 (xm:Int)
deriving DecidableEq
def Rc.ok(c:Rc):Bool:=(rB c.jv 1 8&&rB c.AO 1 16)&&rB c.xm 1 c.jv
variable{c:Rc}
theorem Rc.lj:c.ok=true↔(1<=c.jv/\c.jv<=8)/\(1<=c.AO/\c.AO<=16)/\(1<=c.xm/\c.xm<=c.jv):=by
 simp only[Rc.ok,aB,B6,and_assoc]
abbrev Rc.L(c:Rc):LB:=[.one (.int .i64 c.jv),.one (.int .i64 c.AO),.one (.int .i64 c.xm)]
abbrev Yb:Ty Pt:={enc:=R0,s:=2,sl:=128,el:=217,by':=16,ts:=_,ti:=_,ok:=Co,h1:=rfl,h2:=rfl,h3:=rfl,h4:=rfl,h5:=rfl,h6:=rfl,h7:=by decide,h8:=by decide}
abbrev Ptl:=Gl Yb
abbrev V6:=Gw Yb
abbrev Pta:=Ga Yb
abbrev Ptv(x:Pt):CV:=.a [.one (.int .u64 x.1),.one (.int .i64 x.2)]
variable{m:aD}{n x:Int}
theorem vR:eN tP 101 [i64 n,i64 x] m [bR (rB n 1 x)]:=by
 refine ub Tryz.func101 ?_;refine⟨λh=>?_,λh=>?_⟩<;>conv=>whnf
 all_goals exact⟨by rw[rB,h];rfl,rfl⟩
theorem Ek:eN tP 45 [.a c.L] m [bR c.ok]:=by
 refine ub Tryz.func45 ?_;refine bt (vR) ?_;conv=>whnf
 unfold Rc.ok;apply bI<;>intro h
 ·refine bt (vR) ?_
  apply bI<;>intro h2
  ·refine bt (vR) ?_
   exact⟨by rw[h,h2];rfl,rfl⟩
  ·exact⟨by rw[h,h2];rfl,rfl⟩
 ·exact⟨by rw[h];rfl,rfl⟩
abbrev eO(c:Rc)(d st se:Int)(lv:Value):Obj:=.cells #[.int .i64 c.jv,.int .i64 c.AO,.int .i64 c.xm,.int .u32 d,.int .i32 st,.int .u32 se,lv] 130
theorem agh(h:c.ok=true):bi tP 16 [.a c.L] m λr m'=>∃b,m b=none/\r=[cx b,i64 0]/\m'=m.set b (eO c 0 0 0 (.slice none 0 0)):=by
 refine A4 c16 Tryz.func16 ?_;refine bt (Ek) ?_;conv=>whnf
 rw[h];refine xN ?_;intro b hb;exact⟨b,hb,rfl,rfl⟩
variable{b:Nat}{lv:Value}
theorem T9{d st se:Int}(h:m b=some (eO c d st se lv)):eN tP 155 [cx b] m [.a c.L]:=by
 refine ub Tryz.func155 ?_;refine xN ?_;refine⟨c.L,⟨rfl,rfl,rfl,trivial⟩,rfl,dQ.Wl [] [.one (.int .u32 d),.one (.int .i32 st),.one (.int .u32 se),.one lv] h rfl,?_⟩;exact rR
theorem UF{x:Pt}(hb:m b=some (.cells #[.int .u64 n] 31)):eN tP 109 [Ptv x,cx b] m [bR (decide (n<=x.1))]:=by
 refine ub Tryz.func109 ?_;refine xM hb ?_;exact rR
open Go.Proofs Go.Shelf Go.Sort Go.Lib
def ai2:Go.Shelf.Ren:=⟨rF [(6,260),(14,334),(15,188),(20,378),(21,379),(22,380),(23,381),(24,382),(25,383),(26,384),(27,385),(28,279),(29,280),(46,435),(47,339),(48,340),(49,436),(50,437),(57,461)],rF [(0,0),(3,3),(4,4),(5,5),(9,9),(22,128),(24,217),(25,362),(39,193),(45,367),(46,368),(50,348),(53,119),(55,31),(66,430),(70,434),(76,475),(77,284)],λn=>n⟩
theorem ac0:SlLaysF0.n6 tP ai2:=by repeat' first|kernel_rfl|exact λ_=>rfl|(apply brs<;>kernel_rfl)|decide|constructor
instance:Inhabited Pt:=⟨(0,0)⟩
theorem JV:wP tP 260:=ac0.f6.enters rfl
theorem TO{cf:Pt->Pt->Int}(hO:SWO (ltOf cf))(hT:∀x y,(ltOf cf) x y=false->(ltOf cf) y x=false->x=y){g:Nat}(hcf:∀x y,bi tP g [Ptv x,Ptv y] iI λr _=>r=[i64 (cf x y)])
  {m p:aD}{l:List aD}{i:Nat} (hS:cK m) (hs:aq m l) (hi:l[i]?=some p) {v:Value}{E:List Pt} (hv:V6 p v E) (hl:E.length<=1000000000):
  bi tP 260 [.v v,Aj g] m λr m'=>∃p',r=[]/\aq m' (l.set i p')/\V6 p' v (E.mergeSort λx y=>!ltOf cf y x):=
 xO (ρ:=ai2) JV ac0 (k:=2) Tryz.isAgg217 Tryz.sizeOf217 Co hO hT (parts:=λx=>[.one (.int .u64 x.1),.one (.int .i64 x.2)]) (λ_=>rfl) (λ_=>⟨rfl,rfl,trivial⟩) hcf hS hs hi hv hl
variable{a:Pt}
theorem Ze{b:Pt}:bi tP 261 [Ptv a,Ptv b] m λr m'=>r=[i64 (Et a b)]/\cL m m':=by
 refine A4 awk Tryz.func261 ?_;refine fU (wJ) ?_;refine bt (qu) ?_;refine .mk _ (IN) ?_;rintro _ _⟨b1,kW,rfl,rfl⟩;refine bt (adO (Il.Je (aD.bg ..)) (by simp)) ?_;exact⟨rfl,aD.bT _ kW⟩
theorem A1{b:Pt}:vX a b=true↔a.1<b.1\/(a.1=b.1/\a.2<b.2):=by simp[vX]
theorem Ba:ltOf Et=vX:=by
 funext a b
 rw[nV,A1];simp only[ltOf,bA];by_cases h1:a.1<b.1
 ·simp[Et,Qb,sP,h1]
 by_cases h2:b.1<a.1
 ·simp[Et,Qb,sP,h1,h2];omega
 by_cases h3:a.2<b.2
 ·simp[Et,Qb,sP,h1,h2,h3];omega
 by_cases h4:b.2<a.2
 ·simp[Et,Qb,sP,h1,h2,h3,h4]
 ·simp[Et,Qb,sP,h1,h2,h3,h4]
theorem A0{b:Pt}:vX a b=false↔¬(a.1<b.1\/(a.1=b.1/\a.2<b.2)):=by rw[<-A1];simp
theorem Ub:Go.Sort.SWO vX where
 irrefl x:=by rw[A0];omega
 trans x y z h1 h2:=by rw[A1]at*;omega
 ntrans x y z h1 h2:=by rw[A0]at*;omega
theorem M5{x y:Pt}(h1:vX x y=false)(h2:vX y x=false):x=y:=by
 rw[A0]at h1 h2;exact Prod.ext (by omega) (by omega)
variable{p:aD}{i:Nat}{v:Value}
theorem Yx{l:List aD}(hS:cK m)(hs:aq m l)(hi:l[i]?=some p) {E:List Pt} (hv:V6 p v E) (hl:E.length<=1000000000):
  bi tP 260 [.v v,Aj 261] m λr m'=>∃p',r=[]/\aq m' (l.set i p')/\V6 p' v (E.mergeSort λx y=>!vX y x):=by
 have h:=TO (cf:=Et) (by rw[Ba];exact Ub) (by rw[Ba];exact λx y=>M5) (g:=261) (λx y=>Ze.mono λr m' h=>h.1) hS hs hi hv hl;rw[Ba]at h;exact h
def agq(n i:Nat):Pt:=((ua.uW [110,48+n,97+i]:Nat),(n:Nat))
def Ju(v n:Nat):List Pt:=(List.range v).map (agq n)
def M3(n v:Nat):List Pt:=(List.range' 1 n).flatMap (Ju v)
def ja(c:Rc):List Pt:=(M3 c.jv.toNat c.AO.toNat).mergeSort λx y=>!vX y x
theorem K0(n v:Nat):M3 (n+1) v=M3 n v++Ju v (n+1):=by
 simp[M3,List.range'_concat,uG]
theorem YU(v n:Nat):Ju (v+1) n=Ju v n++[agq n v]:=by simp[Ju,Ji]
theorem GX(n v:Nat):(M3 n v).length=n*v:=by
 induction n with
 |zero=>simp[M3]
 |succ n ih=>rw[K0,ax,ih];simp[Ju,lG]
theorem acd(c:Rc):(ja c).length=c.jv.toNat*c.AO.toNat:=by rw[ja,eW,GX]
variable{mm:aD}
theorem ac3(hS:cK m)(hc:c.ok=true)(hs:aq mm [blk1 b (eO c 0 1 0 (.slice none 0 0)),m]):
  bi tP 180 [cx b] mm λr m'=>r=[]/\∃lv p,aq m' [blk1 b (eO c 0 1 0 lv),p,m]/\V6 p lv (ja c):=by
 obtain⟨⟨n1,n2⟩,⟨v1,v2⟩,_⟩:=Rc.lj.1 hc;obtain⟨n,rn,en⟩:∃n:Nat,c.jv=n/\c.jv.toNat=n:=⟨c.jv.toNat,by omega,rfl⟩;obtain⟨v,rv,ev⟩:∃v:Nat,c.AO=v/\c.AO.toNat=v:=⟨c.AO.toNat,by omega,rfl⟩;refine A4 awC Tryz.func180 ?_;refine .mk (ι:=Nat) (λk=>n-k) (λk mm=>k<=n/\∃lv p,aq mm [blk1 b (eO c 0 1 0 lv),p,m]/\V6 p lv (M3 k v)) (λk=>[(0,.c (cx b)),(2,.c (i64 ((k+1:Nat):Int)))]) (λ_=>[]) 0 ⟨by omega,_,iI,(hs.cA).fm (List.Perm.swap ..),Gw.nil _⟩ ?_ ?_
 ·exact Cr
 rintro k mm⟨hk,lv,p,bM,hp⟩;have hb:=bM.get (a:=blk1 b (eO c 0 1 0 lv)) (by simp) (aG ..);refine xM hb ?_;apply bI<;>intro h1
 ·have jc:=ah h1
  have U5:k<n:=by omega
  refine xM hb ?_;refine .mk (ι:=Nat) (λi=>v-i) (λi mm=>i<=v/\∃lv p,aq mm [blk1 b (eO c 0 1 0 lv),p,m]/\V6 p lv (M3 k v++Ju i (k+1))) (λi=>[(0,.c (cx b)),(2,.c (i64 ((k+1:Nat):Int))),(17,.c (i64 c.AO)),(18,.c (i64 i))]) (λ_=>[]) 0 ⟨by omega,lv,p,bM,by simpa [Ju]using hp⟩ ?_ ?_
  ·exact Cr
  rintro i mm⟨hi,lv,p,bM,hp⟩;have hb:=bM.get (a:=blk1 b (eO c 0 1 0 lv)) (by simp) (aG ..);apply bI<;>intro h2
  ·have iD:=ah h2
   refine⟨_,aF hb rfl,hp.el.ea.one,?_⟩;refine .mk _ (ami) ?_;rintro _ _⟨b1,kW,rfl,rfl⟩;have e1:IntKind.u8.wrap (48+IntKind.u8.wrap ((k+1:Nat):Int))=((48+(k+1):Nat):Int):=by rw[wu8 (n:=((k+1:Nat):Int)) (by omega) (by omega),wu8 (by omega) (by omega)];omega
   have e2:IntKind.u8.wrap (97+IntKind.u8.wrap (i:Int))=((97+i:Nat):Int):=by rw[wu8 (n:=(i:Int)) (by omega) (by omega),wu8 (by omega) (by omega)];omega
   rw[e1,e2];refine⟨yt hb (aD.bT _ kW),?_⟩;refine aP (GY (l:=[110,48+(k+1),97+i]) (Lb.awU (l:=nc [110,48+(k+1),97+i]) (aD.bg ..) rfl).la (by simp) (by simp;omega)) ?_;rintro _ m2⟨rfl,bZ⟩;have dy:=bM.grow ((aD.bT _ kW).trans bZ);refine⟨yt (bM.grow (aD.bT _ kW) |>.get (a:=blk1 b (eO c 0 1 0 lv)) (by simp) (aG ..)) bZ,?_⟩;refine .mk _ (AL (t:=Yb) (e:=agq (k+1) i) rfl) ?_;rintro _ _⟨b2,oM,rfl,rfl⟩;refine⟨yt (dy.get (a:=blk1 b (eO c 0 1 0 lv)) (by simp) (aG ..)) (aD.bT _ oM),?_⟩;refine .mk _ (Az (t:=Yb) (i:=1) dy rfl oM hp (by rw[ax,GX];simp[Ju];have:=cS v (show k<=8 by omega);omega)) ?_;rintro _ m4⟨Qt,p',rfl,eP,tZ⟩;refine⟨_,_,_,eP.get (a:=blk1 b (eO c 0 1 0 lv)) (by simp) (aG ..),⟨by simp,by simp⟩,?_⟩;have eD:=eP.set (b:=b) (aG ..) (eO c 0 1 0 Qt);rw[cJ]at eD;refine⟨i+1,⟨by omega,Qt,p',eD,?_⟩,by omega,?_⟩
   ·rw[YU,<-aX];exact tZ
   exact Cr
  ·have iD:=aj h2
   obtain rfl:i=v:=by omega
   refine⟨k+1,⟨by omega,lv,p,bM,?_⟩,by omega,?_⟩
   ·rw[K0];exact hp
   exact Cr
 ·have jc:=aj h1
  obtain rfl:k=n:=by omega
  refine⟨_,aF hb rfl,hp.el.ea.one,?_⟩;refine aP (Yx (i:=1) (hS.sub (bM.sub)) bM rfl hp (by rw[GX];have:=cS v (show k<=8 by omega);omega)) ?_;rintro _ m2⟨p',rfl,bZ,tZ⟩;refine⟨rfl,lv,p',bZ,?_⟩;rw[ja,en,ev];exact tZ
theorem ai9(w:World):(callFunc 423 #[]).run Tryz.prog w= .ok (.value (.tuple #[])) w:=run_call_mark0 Tryz.func423 (by kernel_rfl) (by kernel_rfl) (by kernel_rfl) .disable (by kernel_rfl) w
theorem ai8(w:World):(callFunc 425 #[]).run Tryz.prog w= .ok (.value (.tuple #[])) w:=run_call_mark0 Tryz.func425 (by kernel_rfl) (by kernel_rfl) (by kernel_rfl) .enable (by kernel_rfl) w
theorem aoR(a:Addr)(w:World):(callFunc 426 #[.pointer (some a)]).run Tryz.prog w= .ok (.value (.tuple #[])) w:=run_call_marked Tryz.func426 (by kernel_rfl) (by kernel_rfl) (by kernel_rfl) .acquire (by kernel_rfl) a w
theorem aoQ(a:Addr)(w:World):(callFunc 428 #[.pointer (some a)]).run Tryz.prog w= .ok (.value (.tuple #[])) w:=run_call_marked Tryz.func428 (by kernel_rfl) (by kernel_rfl) (by kernel_rfl) .releaseMerge (by kernel_rfl) a w
theorem ao8(a:Addr)(w:World)(hc:w.cell? a=some (.int .i32 0))(hz:w.frozen? a=false):
  Calls Tryz.prog 369 #[.pointer (some a)] w λe w'=>e= .returned (.tuple #[])/\w'=w.setCell a (.int .i32 1):=by
 have hd:=ai9;have he:=ai8;have ha:=aoR;have aBg:=run_call_cas_hit (P:=Tryz.prog) Tryz.func424 (by kernel_rfl) (by kernel_rfl) (by kernel_rfl) .i32 (by kernel_rfl) (y:=1) hc hz;have Vg:(w.setCell a (.int .i32 1)).cell? a=some (.int .i32 1):=World.cell?_setCell_same w a _ hc;have Rn:=run_convert_to_unsafe (P:=Tryz.prog) (src:=504) (dst:=481) Tryz.underlying504 Tryz.underlying481 (by kernel_rfl) Vg
 go_enter Tryz.func369,Tryz.ntmps369
 go_wp2
 first|go_end0|(simp only[Exit.inBlock,Exit.then];refine bodyPost_ret (results_none rfl _ _ _) rfl ?_)|refine bodyPost_ret (results_none rfl _ _ _) rfl ?_
 exact rR
theorem aoS(a:Addr)(w:World)(hc:w.cell? a=some (.int .i32 0))(hz:w.frozen? a=false):
  Calls Tryz.prog 330 #[.pointer (some a)] w λe w'=>e= .returned (.tuple #[])/\w'=w.setCell a (.int .i32 1):=by
 go_enter Tryz.func330,Tryz.ntmps330
 go_wp2_with (go_at_call 369;refine(ao8 a _ (by go_simp) (by go_simp)).mono ?_;rintro e w'⟨rfl,rfl⟩)
 go_end0
 exact rR
theorem ahd(a:Addr)(w:World)(hc:w.cell? a=some (.int .i32 1))(hz:w.frozen? a=false):
  Calls Tryz.prog 370 #[.pointer (some a)] w λe w'=>e= .returned (.tuple #[])/\w'=w.setCell a (.int .i32 0):=by
 have hd:=ai9;have he:=ai8;have hr:=aoQ;have aBp:=run_call_add (P:=Tryz.prog) Tryz.func429 (by kernel_rfl) (by kernel_rfl) (by kernel_rfl) .i32 (by kernel_rfl) (y:=-1) (s:=0) hc hz (by simp[go_sem];rfl);have Rn:=run_convert_to_unsafe (P:=Tryz.prog) (src:=504) (dst:=481) Tryz.underlying504 Tryz.underlying481 (by kernel_rfl) hc
 go_enter Tryz.func370,Tryz.ntmps370
 go_wp2
 go_end0
 exact rR
theorem acp(a:Addr)(u:FrameMode)(w:World)(hc:w.cell? a=some (.int .i32 1))(hz:w.frozen? a=false):
  CallsD Tryz.prog 331 #[.pointer (some a)] u w λe u' w'=>u'=u/\(e= .returned (.tuple #[])/\w'=w.setCell a (.int .i32 0)):=by
 go_enter_d Tryz.func331,Tryz.ntmps331
 go_wp2_with (go_at_call 370;refine(ahd a _ (by go_simp) (by go_simp)).mono ?_;rintro e w'⟨rfl,rfl⟩)
 go_end0
 exact rR
theorem agw(a:Addr)(x:Value)(u:FrameMode)(w:World)(hc:w.cell? a=some x)(hz:w.frozen? a=false):
  CallsD Tryz.prog 332 #[.pointer (some a),.bool true] u w λe u' w'=>u'=u/\(e= .returned (.tuple #[])/\w'=w.drew.setCell a (.int .u32 1)):=by
 have Vg:w.drew.cell? a=some x:=by go_simp
 have hz':w.drew.frozen? a=false:=by go_simp
 have dI:=run_call_store (P:=Tryz.prog) Tryz.func371 (by kernel_rfl) (by kernel_rfl) (by kernel_rfl) (by kernel_rfl) (k:=.u32) (y:=1) Vg hz'
 go_enter_d Tryz.func332,Tryz.ntmps332
 go_wp2
 go_region_calls
 all_goals (go_end0;exact⟨rfl,rfl⟩)
variable{W:World}{arr:Array Value}{T:TypeId}
theorem iO(hW:mg m W){o:Nat}(hb:m b=some (.cells arr T))(hv:arr[o]?=some v):W.cell? ⟨b,o,none⟩=some v:=by
 simp[World.cell?,hW _ _ hb,hv]
theorem zx(hW:mg m W){o:Nat}(hb:m b=some (.cells arr T)):W.frozen? ⟨b,o,none⟩=false:=by
 simp[World.frozen?,hW _ _ hb]
theorem Bv(hW:mg m W){o:Nat}{x:Value}(hb:m b=some (.cells arr T))(hx:arr[o]?=some x):cr m W (m.set b (.cells (arr.setIfInBounds o v) T)) (W.setCell ⟨b,o,none⟩ v):=by
 have h1:=hW _ _ hb;refine cr.setObj hW hb (h:=W.heap.modify b _) (by simp) ?_ λy hy=>?_
 ·rw[vH,aC rfl,h1];rfl
 ·rw[vH,if_neg (Ne.symm hy)]
theorem Y2{f:FuncId}{fn:Func}(h1:Tryz.prog.funcs[f]?=some fn) (h2:(fn.name== "runtime.NumGoroutine")=false) (h3:fn.body.isSome=true):wP Tryz.prog f:=λargs w=>by
 obtain⟨c,hb⟩:=mh.1 h3
 have OS:¬fn.name= "runtime.NumGoroutine" :=by simpa using h2
 simp[callFunc,h1,hb,OS]
theorem YA{lv0:Value}{R:aD->Value->Prop}(hb:m b=some (eO c 0 0 0 lv0))(hL:bi Tryz.prog 180 [cx b] (m.set b (eO c 0 1 0 lv0)) λr m'=>r=[]/\∃lv,m' b=some (eO c 0 1 0 lv)/\R m' lv):
  bi Tryz.prog 258 [.v (.pointer (some ⟨b,3,none⟩)),.v (.func (.func 180) #[.pointer (some ⟨b,0,none⟩)] #[])] m λr m'=>r=[]/\∃m1 lv,R m1 lv/\m1 b=some (eO c 0 1 0 lv)/\m'=m1.set b (eO c 1 0 0 lv):=by
 refine⟨Y2 Tryz.func258 (by kernel_rfl) (by kernel_rfl),λEP W hW=>?_⟩;have h0:=iO hW (o:=3) hb rfl;have h1:=iO hW (o:=4) hb rfl;have h3:=iO hW (o:=6) hb rfl;have f0:=zx hW (o:=3) hb;have f1:=zx hW (o:=4) hb;have a1:cr m W (m.set b (eO c 0 1 0 lv0)) (W.setCell ⟨b,4,none⟩ (.int .i32 1)):=Bv hW (o:=4) (v:=.int .i32 1) hb rfl;have hl:=run_call_load (P:=Tryz.prog) Tryz.func329 (by kernel_rfl) (by kernel_rfl) (by kernel_rfl) .u32 (by kernel_rfl) (w:=W.setCell ⟨b,4,none⟩ (.int .i32 1)) (a:=⟨b,3,none⟩) (x:=0) ((World.cell?_setCell_other _ ⟨b,4,none⟩ ⟨b,3,none⟩ _ (by simp)).trans h0);have apL:∀(x:Bool) (w:World),(Op.unary .not (.bool x)).run Tryz.prog w= .ok (.bool (!x)) w:=λ_ _=>rfl
 show Calls Tryz.prog 258 #[.pointer (some ⟨b,3,none⟩),.func (.func 180) #[.pointer (some ⟨b,0,none⟩)] #[]] W _
 go_enter_defers Tryz.func258,Tryz.ntmps258
 go_wp2_with (go_at_call 330;refine(aoS ⟨b,4,none⟩ _ (by go_simp) (by go_simp)).mono ?_;rintro e w'⟨rfl,rfl⟩)
 go_wp2_with (first|(go_at_call 180;refine(hL.2 (by simp[CV.ok,Value.oneCell']) _ a1.jF).mono ?_;rintro e w2⟨r2,m2,rfl,jK,⟨rfl,lv,vD,hR⟩,ZL⟩)|go_in)
 have a3:cr m2 w2 (m2.set b (eO c 1 1 0 lv)) (w2.drew.setCell ⟨b,3,none⟩ (.int .u32 1)):=(cr.drew (cr.refl ZL.jF)).trans (Bv (cr.drew (cr.refl ZL.jF)).jF (o:=3) (v:=.int .u32 1) vD rfl);have Ah:(m2.set b (eO c 1 1 0 lv)) b=some (eO c 1 1 0 lv):=aD.bg ..;have a4:cr (m2.set b (eO c 1 1 0 lv)) (w2.drew.setCell ⟨b,3,none⟩ (.int .u32 1)) ((m2.set b (eO c 1 1 0 lv)).set b (eO c 1 0 0 lv)) ((w2.drew.setCell ⟨b,3,none⟩ (.int .u32 1)).setCell ⟨b,4,none⟩ (.int .i32 0)):=Bv a3.jF (o:=4) (v:=.int .i32 0) Ah rfl;rw[aD.set_set]at a4;refine leaves_cons (f:=332) (args:=#[.pointer (some ⟨b,3,none⟩),.bool true]) (by simp) (by simp[go_sem]) ?_;refine(agw ⟨b,3,none⟩ (.int .u32 0) .returning _ (iO ZL.jF vD rfl) (zx ZL.jF vD)).mono ?_;rintro e u' w''⟨rfl,rfl,rfl⟩;refine leaves_cons (f:=331) (args:=#[.pointer (some ⟨b,4,none⟩)]) (by simp[settle]) (by simp[go_sem]) ?_;refine(acp ⟨b,4,none⟩ _ _ (iO a3.jF Ah rfl) (zx a3.jF Ah)).mono ?_;rintro e u' w''⟨rfl,rfl,rfl⟩;have a5:=((a1.trans ZL).trans a3).trans a4;refine⟨.tuple #[],by simp[results,Tryz.results258],[],_,rfl,(by simp),⟨rfl,m2,lv,hR,vD,rfl⟩,a5⟩
theorem aja{o:Nat}(hb:gR m b o=some (.int .u32 x)):eN Tryz.prog 257 [.v (.pointer (some ⟨b,o,none⟩))] m [bR (!decide (x=0))]:=by
 refine ub Tryz.func257 ?_;refine aj1 (aem (P:=Tryz.prog) Tryz.func329 (by rfl) (by rfl) (by kernel_rfl) .u32 (by kernel_rfl) hb) ?_;rintro _ _⟨rfl,rfl⟩;exact⟨by rw[<-qO];rfl,rfl⟩
theorem WB{fv:Value}(hb:m b=some (eO c 1 0 0 lv)):eN Tryz.prog 179 [.v (.pointer (some ⟨b,3,none⟩)),.v fv] m []:=by
 refine ub Tryz.func179 ?_;refine bt (aja (aF hb rfl)) ?_;refine xN ?_;exact rR
theorem agA{lv0:Value}{R:aD->Value->Prop}(hb:m b=some (eO c 0 0 0 lv0))(hL:bi Tryz.prog 180 [cx b] (m.set b (eO c 0 1 0 lv0)) λr m'=>r=[]/\∃lv,m' b=some (eO c 0 1 0 lv)/\R m' lv):
  bi Tryz.prog 179 [.v (.pointer (some ⟨b,3,none⟩)),.v (.func (.func 180) #[.pointer (some ⟨b,0,none⟩)] #[])] m λr m'=>r=[]/\∃m1 lv,R m1 lv/\m1 b=some (eO c 0 1 0 lv)/\m'=m1.set b (eO c 1 0 0 lv):=by
 refine ub Tryz.func179 ?_;refine bt (aja (aF hb rfl)) ?_;refine xY ?_;refine aP (YA hb hL) ?_;rintro _ m'⟨rfl,h⟩;exact⟨rfl,h⟩
theorem JE{E:List Pt}{F:Nat}{p:Pt->Bool}(hv:Pta m v E)(hF:∀e∈E,eN tP F [Ptv e,cx b] m [bR (p e)])(hl:E.length<=100000000):eN tP 108 [.v v,(l5 F b)] m [i64 (sH p E)]:=by
 obtain⟨a,c,rfl⟩:=hv.shape;refine ub Tryz.func108 ?_;refine .mk (ι:=Nat) (λi=>E.length-i) (λi mm=>i<=E.length/\(∀x∈E.take i,p x=false)/\mm=m) (λi=>[(0,.c (.v (.slice a E.length c))),(1,.c (l5 F b)),(7,.c (i64 E.length)),(8,.c (i64 i))]) (λ_=>[]) 0 ⟨by omega,by simp,rfl⟩ ?_ ?_
 ·exact Cr
 rintro i mm⟨hi,cM,he⟩;subst mm;apply bI<;>intro h
 ·have h':=ah h
  have bH:i<E.length:=by omega
  obtain⟨bl,ol,c',hh,hg⟩:=hv.real bH;injection hh with eK _ fN;subst eK;have hg:=hg i bH
  repeat refine xS ?_
  refine⟨[.one (.int .u64 E[i].1),.one (.int .i64 E[i].2)],⟨rfl,rfl,trivial⟩,rfl,by simp only[bK,aA];exact hg,?_⟩;refine bt ((hF E[i] (aO bH))) ?_;have dI:E.take (i+1)=E.take i++[E[i]]:=au bH;apply bI<;>intro h
  ·exact⟨by rw[tW bH cM h],rfl⟩
  ·refine⟨i+1,⟨by omega,λx hx=>?_,rfl⟩,by omega,?_⟩
   ·rw[dI]at hx
    rcases aR.1 hx with hx|hx
    ·exact cM x hx
    ·rw[aL.1 hx];exact h
   ·exact Cr
 ·have h':=aj h
  obtain rfl:i=E.length:=by omega
  rw[aJ]at cM;exact⟨by rw[nL cM],rfl⟩
theorem Rs{n:Nat}(hn:n<=1000000):
  bi tP 181 [.v (.slice none 0 0),.v (.int .i64 n)] m λr m'=>∃v p,r=[.v v]/\aq m' [p,m]/\V6 p v []:=by
 obtain⟨ti,t1,t2⟩:∃ti,tt.get 128=some ti/\ti.k= .slice 217:=⟨_,rfl,rfl⟩;obtain⟨ei,g1,g2,g3,g4⟩:∃ti,tt.get 217=some ti/\ti.size=2/\ti.bytes=16/\LB.cz ti.zero=R0 (0,0):=⟨_,rfl,rfl,rfl,rfl⟩;refine ub Tryz.func181 ?_;refine⟨λh=>absurd h (by(simp;try omega)),λ_=>?_⟩;refine .mk _ (sR eR (by rfl) rfl) ?_;rintro _ _⟨rfl,rfl⟩;conv=>whnf
 have e:IntKind.i64.wrap ((n:Int)-IntKind.i64.wrap (((0:Nat):Int)-((0:Nat):Int)))=(n:Int):=by rw[wi (n:=((0:Nat):Int)-((0:Nat):Int)) (by omega) (by omega),wi];omega
 rw[e];apply bI<;>intro h
 ·have h':=ah h
  refine .mk _ (sR eR (by rfl) rfl) ?_;rintro _ _⟨rfl,rfl⟩
  repeat refine xS ?_
  refine .mk _ (aaK (n:=0) (c:=0) (a:=none) (l:=[]) eR t1 t2 g1 Tf rfl (by rw[g2];decide) rfl (.inl ⟨0,rfl,by simp⟩) (by omega) (by omega) (by rw[g3];omega) (by omega)) ?_;rintro _ _⟨b,C,hb,hC,rfl,rfl⟩
  repeat refine xS ?_
  intro o' h1 h2;obtain rfl:o'=0:=by have:=h1 (by omega);simpa using this
  refine⟨_,blk1 b _,rfl,(aq.one m).new hb _,.inr ⟨b,0,C,0,_,rfl,aG ..,rfl,lF _,?_,by intro j u hu;simp at hu,by simp⟩⟩;simp only[oQ,kr,dM,cW,g4];have hz:(R0 (0,0)).length=2:=rfl;rw[hz];omega
 ·have h':=aj h
  exact⟨_,iI,rfl,(aq.one m).cA,Gw.nil _⟩
structure SY(m:aD)(v:Value)(ps:List (Value×List Pt)):Prop where
 ky:gq m 1 v (ps.map (·.1))
 la:∀p∈ps,Pta m p.1 p.2
variable{ps:List (Value×List Pt)}
theorem SY.shape(h:SY m v ps):∃a c,v= .slice a ps.length c:=by
 rcases h.ky with⟨c,rfl,e⟩|⟨b,o,c,n,arr,t,fr,rfl,_,e,_⟩
 ·have:ps.length=0:=by simpa using be List.length e
  exact⟨none,c,by rw[this]⟩
 ·have:ps.length=n:=by simpa using e
  exact⟨_,c,by rw[this]⟩
theorem SY.real(h:SY m v ps)(hi:i<ps.length):∃b o c,v= .slice (some ⟨b,o,none⟩) ps.length c/\∀(i:Nat) (hi:i<ps.length),gR m b (o+i)=some ps[i].1:=by
 rcases h.ky with⟨c,rfl,e⟩|⟨b,o,c,n,arr,t,fr,rfl,g1,e,_,g2,_⟩
 ·have:ps.length=0:=by simpa using be List.length e
  omega
 ·have:ps.length=n:=by simpa using e
  exact⟨b,o,c,by rw[this],λj hj=>aF g1 (g2 j _ (by simp[hj]))⟩
def l9(ps:List (Value×List Pt)):List Pt:=(ps.map (·.2)).flatten
theorem wL(h:i<ps.length):l9 (ps.take i)++ps[i].2=l9 (ps.take (i+1)):=by
 rw[au h,l9,l9,bD,gk];simp
theorem Sw(i:Nat):(l9 (ps.take i)).length<=(l9 ps).length:=by
 have e:l9 ps=l9 (ps.take i)++l9 (ps.drop i):=by
  rw[l9,l9,l9,<-gk,<-bD,dL]
 rw[e,ax];omega
theorem J1(h:SY m v ps)(hb:(l9 ps).length<=1000000)(hn:ps.length<=1000000):
  bi tP 110 [.v v] m λr m'=>∃v' p,r=[.v v']/\aq m' [p,m]/\V6 p v' (l9 ps):=by
 obtain⟨a,c,rfl⟩:=h.shape;refine ub Tryz.func110 ?_;refine .mk (ι:=Nat) (λi=>ps.length-i) (λi mm=>i<=ps.length/\mm=m) (λi=>[(0,.c (.v (.slice a ps.length c))),(3,.c (i64 (l9 (ps.take i)).length)),(9,.c (.v (.slice a ps.length c))),(10,.c (i64 ps.length)),(11,.c (i64 i))]) (λ_=>[]) 0 ⟨by omega,rfl⟩ ?_ ?_
 ·exact Cr
 rintro i mm⟨hi,he⟩;subst mm;apply bI<;>intro h1
 ·have jc:=ah h1
  have bH:i<ps.length:=by omega
  obtain⟨b,o,c',e,nT⟩:=h.real bH;cases e;have AG:=h.la ps[i] (by simp);obtain⟨ai,ci,hvi⟩:=AG.shape;have hc:=nT i bH;rw[hvi]at hc;have hle:=Sw (ps:=ps) (i+1);rw[<-wL bH,ax]at hle
  repeat refine xS ?_
  refine⟨_,hc,rfl,?_⟩;conv=>whnf
  have e3:IntKind.i64.wrap (((l9 (ps.take i)).length:Int)+(ps[i].2.length:Int))=((l9 (ps.take (i+1))).length:Int):=by
   rw[<-wL bH,ax,wi];omega
  rw[e3];refine⟨λh=>absurd h (by(simp;try omega)),λ_=>?_⟩;refine⟨i+1,⟨by omega,rfl⟩,by omega,?_⟩;exact Cr
 ·have jc:=aj h1
  obtain rfl:i=ps.length:=by omega
  rw[aJ];refine aP (Rs (n:=(l9 ps).length) (by omega)) ?_;rintro _ m2⟨v2,p2,rfl,bZ,lD⟩;refine .mk (ι:=Nat×Value) (λi=>ps.length-i.1) (λ⟨i,x⟩ mm=>i<=ps.length/\∃p,aq mm [p,m]/\V6 p x (l9 (ps.take i))) (λ⟨i,x⟩=>[(6,.c (.v x)),(25,.c (.v (.slice a ps.length c))),(26,.c (i64 ps.length)),(27,.c (i64 i))]) (λ_=>[]) (0,v2) ⟨by omega,p2,bZ,by simpa [l9]using lD⟩ ?_ ?_
  ·exact Cr
  rintro⟨i,x⟩ mm ⟨hi,p,hs,hx⟩;apply bI<;>intro h2
  ·have iD:=ah h2
   have bH:i<ps.length:=by omega
   obtain⟨b,o,c',e,nT⟩:=h.real bH;cases e;have AG:=h.la ps[i] (by simp);have hle:=Sw (ps:=ps) (i+1);rw[<-wL bH,ax]at hle;have hc:gR mm b (o+i)=some ps[i].1:=nH (nT i bH) (hs.at (i:=1) rfl)
   repeat refine xS ?_
   refine⟨_,hc,AG.one,?_⟩;refine .mk _ (amn (t:=Yb) (i:=0) hs rfl hx (AG.sub (hs.at (i:=1) rfl)) (by omega)) ?_;rintro _ m3⟨v3,p3,rfl,dy,tX⟩;refine⟨(i+1,v3),⟨by omega,p3,dy,?_⟩,by simp only;omega,?_⟩
   ·rw[wL bH]at tX;exact tX
   ·exact Cr
  ·have iD:=aj h2
   obtain rfl:i=ps.length:=by omega
   rw[aJ]at hx;exact⟨x,p,rfl,hs,hx⟩
theorem SY.Je{n:Nat}{t:TypeId}{fr:Nat×Nat}(h:m b=some (.cells (ps.map (·.1)).toArray t fr))(hn:ps.length=n)(hl:∀p∈ps,Pta m p.1 p.2):SY m (.slice (some ⟨b,0,none⟩) n n) ps:=by
 refine⟨.inr ⟨b,0,n,n,_,_,_,rfl,h,by simp[hn],aW _,λj u hu=>by simpa using hu,λu hu=>?_⟩,λp hp=>hl p hp⟩;obtain⟨p,hp,rfl⟩:=aV.1 hu;exact(hl p hp).one
theorem aam{x y:Value}:bF tP (.buildSlice 287 2 [0,1]) [.v x,.v y] m λr m'=>∃b,m b=none/\r=[.v (.slice (some ⟨b,0,none⟩) 2 2)]/\m'=m.set b (.cells #[x,y] 128):=by
 obtain⟨ti,t1,t2⟩:∃ti,tt.get 128=some ti/\ti.k= .slice 217:=⟨_,rfl,rfl⟩;exact dm (n:=2) eR (show tt.get 287=some ⟨.slice 128,1,24,[.one (.slice none 0 0)],false⟩ by rfl) rfl (show tt.get 128=some ⟨.slice 217,1,24,[.one (.slice none 0 0)],false⟩ by rfl) rfl rfl (by simp[CV.cs]) (by simp) (by simp)
theorem oD{l:List Int}(hv:Ia m v l)(hl:l.length<=100000000):eN tP 48 [.v v,i64 x] m [bR (l.contains x)]:=by
 obtain⟨a,c,rfl⟩:=hv.shape
 have key:eN tP 102 [.v (.slice a l.length c),i64 x] m [i64 (QX (λy=>x==y) l)]:=by
  refine ub Tryz.func102 ?_;refine .mk (ι:=Nat) (λi=>l.length-i) (λi mm=>i<=l.length/\(∀y∈l.take i,(x==y)=false)/\mm=m) (λi=>[(0,.c (.v (.slice a l.length c))),(1,.c (i64 x)),(7,.c (i64 l.length)),(8,.c (i64 i))]) (λ_=>[]) 0 ⟨by omega,by simp,rfl⟩ ?_ ?_
  ·exact Cr
  rintro i mm⟨hi,cM,he⟩;subst mm;apply bI<;>intro h
  ·have h':=ah h
   have bH:i<l.length:=by omega
   obtain⟨bl,ol,c',hh,hg⟩:=hv.real bH;injection hh with eK _ fN;subst eK;have hg:=hg i bH;have dI:l.take (i+1)=l.take i++[l[i]]:=au bH
   repeat refine xS ?_
   refine⟨_,hg,rfl,?_⟩;apply bI<;>intro h2
   ·exact⟨by rw[WY bH cM h2],rfl⟩
   ·refine⟨i+1,⟨by omega,λy hy=>?_,rfl⟩,by omega,?_⟩
    ·rw[dI]at hy
     rcases aR.1 hy with hy|hy
     ·exact cM y hy
     ·rw[aL.1 hy];exact h2
    ·exact Cr
  ·have h':=aj h
   obtain rfl:i=l.length:=by omega
   rw[aJ]at cM;exact⟨by rw[LN cM],rfl⟩
 refine ub Tryz.func48 ?_;refine bt (key) ?_;conv=>whnf
 rw[List.contains_eq_any_beq,<-EI];exact rR
def CO(p:aD)(b:Nat)(c:Rc):Prop:=∃lv q,aq p [blk1 b (eO c 1 0 0 lv),q]/\V6 q lv (ja c)
def jY(p:aD)(b:Nat)(c:Rc):Prop:=aq p [blk1 b (eO c 0 0 0 (.slice none 0 0))]\/CO p b c
theorem CO.Wv(h:CO p b c)(hs:cL p m):∃lv,m b=some (eO c 1 0 0 lv)/\Pta m lv (ja c):=by
 obtain⟨lv,q,h1,h2⟩:=h;exact⟨lv,hs _ _ (h1.get (a:=blk1 b (eO c 1 0 0 lv)) (by simp) (aG ..)),h2.el.ea.sub ((h1.sub).trans hs)⟩
theorem jY.cases(hs:aq mm [p,m])(hr:jY p b c):aq mm [blk1 b (eO c 0 0 0 (.slice none 0 0)),m]\/∃lv q,aq mm [blk1 b (eO c 1 0 0 lv),q,m]/\V6 q lv (ja c):=by
 rcases hr with h|⟨lv,q,h,hq⟩
 ·exact .inl (hs.tQ h)
 ·exact .inr ⟨lv,q,hs.tQ h,hq⟩
theorem jY.laid{q:aD}{l:List aD}(hs:aq mm (blk1 b (eO c 1 0 0 lv)::q::l))(hq:V6 q lv (ja c)):∃p,aq mm (p::l)/\CO p b c:=by
 refine⟨_,hs.jo,lv,q,?_,hq⟩;exact aq.abk (aq.one _) hs.dj
theorem PY(hS:cK m)(hc:c.ok=true)(hs:aq mm [p,m])(hr:jY p b c):
  bi tP 107 [cx b] mm λr m'=>∃lv q,r=[.v lv]/\aq m' [blk1 b (eO c 1 0 0 lv),q,m]/\V6 q lv (ja c):=by
 rcases hr.cases hs with bM|⟨lv,q,bM,hq⟩
 ·have hb:=bM.get (a:=blk1 b (eO c 0 0 0 (.slice none 0 0))) (by simp) (aG ..)
  have bZ:=bM.set (b:=b) (aG ..) (eO c 0 1 0 (.slice none 0 0));rw[cJ]at bZ;refine ub Tryz.func107 ?_;refine xN ?_;refine .mk _ (df (cs:=[.pointer (some ⟨b,0,none⟩)]) (by simp[Value.oneCell'])) ?_;rintro _ _⟨rfl,rfl⟩;refine aP (agA (R:=λm' lv=>∃q,aq m' [blk1 b (eO c 0 1 0 lv),q,m]/\V6 q lv (ja c)) hb ((ac3 hS hc bZ).mono λr m' ⟨h1,lv,q,h2,h3⟩=>⟨h1,lv,h2.get (a:=blk1 b (eO c 0 1 0 lv)) (by simp) (aG ..),q,h2,h3⟩)) ?_;rintro _ m'⟨rfl,m1,lv,⟨q,h2,h3⟩,h4,rfl⟩;have eD:=h2.set (b:=b) (aG ..) (eO c 1 0 0 lv);rw[cJ]at eD;refine⟨_,aF (eD.get (a:=blk1 b (eO c 1 0 0 lv)) (by simp) (aG ..)) rfl,h3.el.ea.one,?_⟩;exact⟨lv,q,rfl,eD,h3⟩
 ·have hb:=bM.get (a:=blk1 b (eO c 1 0 0 lv)) (by simp) (aG ..)
  refine ub Tryz.func107 ?_;refine xN ?_;refine .mk _ (df (cs:=[.pointer (some ⟨b,0,none⟩)]) (by simp[Value.oneCell'])) ?_;rintro _ _⟨rfl,rfl⟩;refine bt (WB hb) ?_;refine⟨_,aF hb rfl,hq.el.ea.one,?_⟩;exact⟨lv,q,rfl,bM,hq⟩
def iM(n:Int):List Int->List Int->List Int
 |dE,[]=>dE
 |dE,x::l=>iM n (if decide ((dE.length:Int)<n)&& !dE.contains x then dE++[x]else dE) l
def x7(n:Int)(dE:List Int)(x:Int):List Int:=if decide ((dE.length:Int)<n)&& !dE.contains x then dE++[x]else dE
theorem G1(n:Int):∀(l dE:List Int) (x:Int),iM n dE (l++[x])=x7 n (iM n dE l) x
 |[],dE,x=>rfl
 |y::l,dE,x=>G1 n l _ x
theorem Dn(n:Int):∀(l dE:List Int),(iM n dE l).length<=dE.length+l.length
 |[],dE=>aW _
 |y::l,dE=>by
  have h:=Dn n l (x7 n dE y)
  have h2:(x7 n dE y).length<=dE.length+1:=by
   unfold x7
   split<;>simp
  show(iM n (x7 n dE y) l).length<=_
  simp only[bd];omega
def sB(c:Rc)(part:Int):List Int:=
 if part<0\/7<part then[]else
  let i:=(max (sH (λp=>decide (part*2305843009213693952<=p.1)) (ja c)) 0).toNat
  iM c.xm [] (((ja c).drop i++(ja c).take i).map (·.2))
theorem PW(hc:c.ok=true):0<(ja c).length/\(ja c).length<=128:=by
 obtain⟨⟨n1,n2⟩,⟨v1,v2⟩,_⟩:=Rc.lj.1 hc;rw[acd];exact⟨Nat.mul_pos (by omega) (by omega),Nat.mul_le_mul (show c.jv.toNat<=8 by omega) (show c.AO.toNat<=16 by omega)⟩
variable{part:Int}
theorem Zh(h:part<0\/7<part):sB c part=[]:=by unfold sB;rw[aC h]
theorem Qw{mm:aD}{b:Nat}{c:Rc}{part:Int}{Q:aD->Prop}(hc:c.ok=true)(hp: -9223372036854775808<=part/\part<=9223372036854775807)(h0:part<0\/7<part->Q mm)
  (auc:∀b5 o,mm b5=none->bi tP 107 [cx b] (mm.set b5 o) λr m'=>∃lv m2,r=[.v lv]/\aq m' [blk1 b5 o,m2]/\m2 b=some (eO c 1 0 0 lv)/\Pta m2 lv (ja c)/\Q m2):
  bi tP 52 [cx b,i64 part] mm λr m'=>∃v q m2,r=[.v v]/\aq m' [q,m2]/\Q m2/\Io q v (sB c part):=by
 refine A4 c52 Tryz.func52 ?_;refine bt (aas hp) ?_;by_cases NX:part<0\/7<part
 ·rw[aC NX]
  intro b5 mo;refine⟨_,_,_,aD.bg ..,⟨by decide,by simp⟩,?_⟩;refine xY ?_;conv=>whnf
  rw[aD.set_set];refine⟨_,iI,mm,rfl,(((aq.one mm).new mo _).drop).cA,h0 NX,?_⟩;rw[Zh NX];exact Io.nil _
 rw[if_neg NX];intro b5 mo;refine⟨_,_,_,aD.bg ..,⟨by decide,by simp⟩,?_⟩;refine xN ?_;conv=>whnf
 rw[aD.set_set];refine aP (auc b5 (.cells #[.int .u64 (part*2305843009213693952)] 31) mo) ?_;rintro _ m2⟨lv,mq,rfl,eP,hmb,hq,hQ⟩;obtain⟨l1,l2⟩:=PW hc;obtain⟨bl,ol,cl,rfl,-⟩:=hq.real l1;refine .mk _ (df (cs:=[.pointer (some ⟨b5,0,none⟩)]) (by simp[Value.oneCell'])) ?_;rintro _ _⟨rfl,rfl⟩;have rO:=(hq.sub (eP.sub (a:=mq))).el l1;refine bt (JE (p:=λx=>decide (part*2305843009213693952<=x.1)) rO.ea (λe _=>UF (eP.get (a:=blk1 b5 _) (by simp) (aG ..))) (by omega)) ?_;conv=>whnf
 obtain⟨i,hi,ei⟩:∃i:Nat,i<(ja c).length/\max (sH (λx=>decide (part*2305843009213693952<=x.1)) (ja c)) 0=i:=by
  rcases lY (λx:Pt=>decide (part*2305843009213693952<=x.1)) (ja c)with⟨e,_⟩|⟨i,hi,e,_⟩
  ·exact⟨0,by omega,by rw[e];rfl⟩
  ·exact⟨i,hi,by rw[e];omega⟩
 rw[ei];have w3:(ja c).length<=cl:=(acU (by decide) rO).resolve_right (by omega);have et:((i:Nat):Int).toNat=i:=aA i
 repeat refine xS ?_
 intro o1 q1 q2;rw[et]at q1;obtain rfl:o1=ol+i*2:=by have:=q1 (by omega);simpa using this
 repeat refine xS ?_
 intro o2 q1 q2;obtain rfl:o2=ol:=by have:=q1 (by omega);simpa using this
 conv=>whnf
 rw[et,Nat.sub_zero,Nat.sub_zero];refine .mk _ (aam) ?_;rintro _ _⟨b6,Xl,rfl,rfl⟩;have EK:Ptl (m2.set b6 (.cells #[.slice (some ⟨bl,o2+i*2,none⟩) ((ja c).length-i) (cl-i),.slice (some ⟨bl,o2,none⟩) i cl] 128)) (.slice (some ⟨bl,o2,none⟩) (ja c).length cl) (ja c):=rO.sub (aD.bT _ Xl);have g1:Ptl _ _ ((ja c).drop i):=Co.post EK (i:=i) (by omega) λ_=>rfl;have g2:Ptl _ _ ((ja c).take i):=Co.pre EK (i:=i) (c':=cl) (by omega) (by omega);have eD:=λo=>eP.grow (aD.bT o Xl);refine aP (J1 (ps:=[(_,(ja c).drop i),(_,(ja c).take i)]) (SY.Je (aD.bg ..) rfl (by simp only[aU,fG,rH];rintro p (rfl|rfl);exact g1.ea;exact g2.ea)) (by simp[l9];omega) (by simp)) ?_;rintro _ m3⟨v,pc,rfl,gC,hpc⟩;have iU:=aq.under (a:=[pc]) gC (eD _);have ec:l9 [((Value.slice (some ⟨bl,o2+i*2,none⟩) ((ja c).length-i) (cl-i)),(ja c).drop i),(Value.slice (some ⟨bl,o2,none⟩) i cl,(ja c).take i)]=(ja c).drop i++(ja c).take i:=by simp[l9]
 rw[ec]at hpc
 have el:sB c part=iM c.xm [] (((ja c).drop i++(ja c).take i).map (·.2)):=by
  unfold sB;rw[if_neg NX];simp only[ei,aA]
 have hlen:((ja c).drop i++(ja c).take i).length<=128:=by simp;omega
 rw[el];generalize (ja c).drop i++(ja c).take i=E at hpc hlen;obtain⟨ac,cc,rfl⟩:=hpc.el.ea.shape;replace iU:=iU.ir [0,2]
 refine .mk (ι:=Nat×Value) (λj=>E.length-j.1) (λ⟨j,y⟩ mm=>j<=E.length/\∃py,aq mm [py,pc,mq]/\Io py y (iM c.xm [] ((E.take j).map (·.2))))
  (λ⟨j,y⟩=>[(0,.c (cx b)),(9,.c (.v y)),(32,.c (.v (.slice ac E.length cc))),(33,.c (i64 E.length)),(34,.c (i64 j))]) (λ_=>[]) (0,.slice none 0 0) ⟨by omega,iI,iU.cA,Io.nil _⟩ ?_ ?_
 ·exact Cr
 rintro⟨j,y⟩ mm ⟨hj,py,k8,hy⟩;apply bI<;>intro h
 ·have h':=ah h
  have bH:j<E.length:=by omega
  have hb:=k8.get (a:=mq) (by simp) hmb;obtain⟨b9,o9,c9,hh,hg⟩:=(hpc.el.ea.sub (k8.sub)).real bH;injection hh with eK _ fN;subst eK;have hg:=hg j bH;have dI:E.take (j+1)=E.take j++[E[j]]:=au bH;have CU:=Dn c.xm ((E.take j).map (·.2)) [];rw[aH,aK,cW]at CU
  have vd:iM c.xm [] ((E.take (j+1)).map (·.2))=x7 c.xm (iM c.xm [] ((E.take j).map (·.2))) E[j].2:=by
   rw[dI,bD];exact G1 ..
  generalize E[j]=x at hg vd;generalize iM c.xm [] ((E.take j).map (·.2))=dE at hy CU vd;obtain⟨ya,yc,rfl⟩:=hy.il.ia.shape
  repeat refine xS ?_
  refine⟨[.one (.int .u64 x.1),.one (.int .i64 x.2)],⟨rfl,rfl,trivial⟩,rfl,by simp only[bK,aA];exact hg,?_⟩;refine xM hb ?_;conv=>whnf
  unfold x7 at vd;apply bI<;>intro h2
  ·rw[h2,bj]at vd
   refine bt (oD ((hy.il.sub (k8.sub)).ia) (by omega)) ?_;apply bI<;>intro h3
   ·rw[h3,aC rfl]at vd
    refine .mk _ (qa) ?_;rintro _ _⟨b7,Te,rfl,rfl⟩;refine .mk _ (Es k8 Te hy (by omega)) ?_;rintro _ m9⟨y',py',rfl,zv,I7⟩;refine⟨(j+1,y'),⟨by omega,py',zv,by rw[vd];exact I7⟩,by simp only;omega,?_⟩;exact Cr
   ·rw[h3,if_neg (by decide)]at vd
    refine⟨(j+1,_),⟨by omega,py,k8,by rw[vd];exact hy⟩,by simp only;omega,?_⟩;exact Cr
  ·rw[h2,fH,if_neg (by decide)]at vd
   refine⟨(j+1,_),⟨by omega,py,k8,by rw[vd];exact hy⟩,by simp only;omega,?_⟩;exact Cr
 ·have h':=aj h
  obtain rfl:j=E.length:=by omega
  conv=>whnf
  rw[aJ]at hy;exact⟨y,py,mq,rfl,k8.ir [0,2],hQ,hy⟩
theorem Lw(hS:cK m)(hc:c.ok=true)(hs:aq mm [p,m])(hr:jY p b c)(hp: -9223372036854775808<=part/\part<=9223372036854775807):
  bi tP 52 [cx b,i64 part] mm λr m'=>∃v p' q,r=[.v v]/\aq m' [p',q,m]/\jY p' b c/\Io q v (sB c part)/\(0<=part/\part<=7->CO p' b c):=by
 refine(Qw (Q:=λm2=>∃p',aq m2 [p',m]/\jY p' b c/\(0<=part/\part<=7->CO p' b c)) hc hp (λ_=>⟨p,hs,hr,by omega⟩) λb5 o mo=>?_).mono ?_
 ·obtain⟨q0,NP,bZ,yC⟩:=((hs.new mo o).ir [1,0,2]).fb
  refine(PY (hS.sub (NP m (by simp))) hc bZ hr).mono λr m' ⟨lv,q,h1,h2,h3⟩=>?_;have h4:aq m' [blk1 b5 o,blk1 b (eO c 1 0 0 lv),q,m]:=(yC _ [_,_] h2).ir [2,0,1,3];obtain⟨q1,mQ,dy,alL⟩:=h4.fb;have h5:aq q1 [blk1 b (eO c 1 0 0 lv),q,m]:=alL q1 [] (aq.one q1);obtain⟨p',h6,h7⟩:=jY.laid h5 h3;exact⟨lv,q1,h1,dy,h5.get (a:=blk1 b (eO c 1 0 0 lv)) (by simp) (aG ..),h3.el.ea.sub (h5.sub),p',h6,.inr h7,λ_=>h7⟩
 ·rintro r m'⟨v,q,m2,rfl,h1,⟨p',h2,h3,h5⟩,h4⟩
  exact⟨v,p',q,rfl,(aq.under (a:=[q]) h1 h2).ir [1,0,2],h3,h4,h5⟩
theorem PZ(hb:m b=some (eO c 1 0 0 lv))(U2:lv.oneCell'=true):eN tP 107 [cx b] m [.v lv]:=by
 refine ub Tryz.func107 ?_;refine xN ?_;refine .mk _ (df (cs:=[.pointer (some ⟨b,0,none⟩)]) (by simp[Value.oneCell'])) ?_;rintro _ _⟨rfl,rfl⟩;refine bt (WB hb) ?_;refine⟨_,aF hb rfl,U2,?_⟩;exact rR
theorem Zg(hc:c.ok=true)(hb:m b=some (eO c 1 0 0 lv))(hq:Pta m lv (ja c))(hp: -9223372036854775808<=part/\part<=9223372036854775807):
  bi tP 52 [cx b,i64 part] m λr m'=>∃v q,r=[.v v]/\aq m' [q,m]/\Io q v (sB c part):=by
 refine(Qw (Q:=λm2=>m2=m) hc hp (λ_=>rfl) λb5 o mo=>?_).mono ?_
 ·refine(PZ (aD.bT o mo _ _ hb) hq.one).mono λr m' ⟨h1,h2⟩=>?_
  subst h1 h2;exact⟨lv,m,rfl,(aq.one m).new mo o,hb,hq,rfl⟩
 ·rintro r m'⟨v,q,m2,rfl,h1,rfl,h4⟩
  exact⟨v,q,rfl,h1,h4⟩
theorem DE(hc:c.ok=true)(part:Int):(sB c part).length<=128:=by
 obtain⟨_,l2⟩:=PW hc;unfold sB;split
 ·simp
 ·have:=Dn c.xm (((ja c).drop (max (sH (λp=>decide (part*2305843009213693952<=p.1)) (ja c)) 0).toNat++(ja c).take (max (sH (λp=>decide (part*2305843009213693952<=p.1)) (ja c)) 0).toNat).map (·.2)) []
  simp only[aH,ax,cC,aK,cW]at this;simp only;omega
def l4(c:Rc)(n part:Int):Bool:=(sB c part).contains n
theorem Bf(hS:cK m)(hc:c.ok=true)(hs:aq mm [p,m])(hr:jY p b c)(hp: -9223372036854775808<=part/\part<=9223372036854775807):
  bi tP 21 [cx b,i64 n,i64 part] mm λr m'=>∃p',r=[bR (l4 c n part)]/\aq m' [p',m]/\jY p' b c/\(0<=part/\part<=7->CO p' b c):=by
 refine ub Tryz.func21 ?_;refine aP (Lw hS hc hs hr hp) ?_;rintro _ m1⟨v,p',q,rfl,bM,qn,hq,wz⟩;have:=DE hc part;refine bt (oD (hq.il.sub (bM.sub)).ia (by omega)) ?_;exact⟨p',rfl,bM.ir [0,2],qn,wz⟩
theorem U0(hc:c.ok=true)(hb:m b=some (eO c 1 0 0 lv))(hq:Pta m lv (ja c))(hp: -9223372036854775808<=part/\part<=9223372036854775807):
  eN tP 21 [cx b,i64 n,i64 part] m [bR (l4 c n part)]:=by
 refine bi.ret (R:=λr m'=>r=[bR (l4 c n part)]/\cL m m') ?_ λr' m' h=>h;refine ub Tryz.func21 ?_;refine aP (Zg hc hb hq hp) ?_;rintro _ m1⟨v,q,rfl,bM,mQ⟩;have:=DE hc part;refine bt (oD (mQ.il.sub (bM.sub)).ia (by omega)) ?_;exact⟨rfl,bM.sub⟩
def x8(c:Rc)(n:Int):List Int:=((List.range 8).map λ(i:Nat)=>(i:Int)).filter (l4 c n)
def x9(c:Rc)(n:Int)(i:Nat):List Int:=((List.range i).map λ(i:Nat)=>(i:Int)).filter (l4 c n)
theorem P4(c:Rc)(n:Int)(i:Nat):x9 c n (i+1)=if l4 c n i then x9 c n i++[(i:Int)]else x9 c n i:=by
 unfold x9;rw[Ji,bD,aaB]
 cases h:l4 c n i<;>simp[h]
theorem G6(c:Rc)(n:Int)(i:Nat):(x9 c n i).length<=i:=by
 have:=bC (l4 c n) ((List.range i).map λ(i:Nat)=>(i:Int));rw[aH,List.length_range]at this;exact this
theorem Ue(hS:cK m)(hc:c.ok=true)(hs:aq mm [p,m])(hr:jY p b c):
  bi tP 157 [cx b,i64 n] mm λr m'=>∃v p' q,r=[.v v]/\aq m' [p',q,m]/\CO p' b c/\Io q v (x8 c n):=by
 refine ub Tryz.func157 ?_;refine .mk (ι:=Nat×Value) (λi=>8-i.1) (λ⟨i,y⟩ mm=>i<=8/\∃p q,aq mm [p,q,m]/\jY p b c/\Io q y (x9 c n i)/\(0<i->CO p b c)) (λ⟨i,y⟩=>[(0,.c (cx b)),(1,.c (i64 n)),(5,.c (.v y)),(7,.c (i64 i))]) (λ_=>[]) (0,.slice none 0 0) ⟨by omega,p,iI,hs.cA.ir [1,0,2],hr,Io.nil _,by omega⟩ ?_ ?_
 ·exact Cr
 rintro⟨i,y⟩ mm ⟨hi,p,q,bM,hr,hy,hl⟩;apply bI<;>intro h
 ·have h':=ah h
  have bH:i<8:=by omega
  have vd:=P4 c n i;have CU:=G6 c n i;generalize x9 c n i=dE at hy CU vd;obtain⟨ya,yc,rfl⟩:=hy.il.ia.shape;obtain⟨q0,NP,bZ,yC⟩:=bM.fb;refine aP (Bf (n:=n) (part:=i) (hS.sub (NP _ (by simp))) hc bZ hr (by omega)) ?_;rintro _ m3⟨p1,rfl,dy,qn,wz⟩;have eP:=yC _ [_] dy;apply bI<;>intro h2
  ·rw[aC h2]at vd
   refine .mk _ (qa) ?_;rintro _ _⟨b7,Te,rfl,rfl⟩;refine .mk _ (Es (eP.ir [1,0,2]) Te hy (by omega)) ?_;rintro _ m9⟨y',py',rfl,zv,I7⟩;refine⟨(i+1,y'),⟨by omega,p1,py',zv.ir [1,0,2],qn,(by rw[vd];exact I7),λ_=>wz (by omega)⟩,by simp only;omega,?_⟩;exact Cr
  ·rw[if_neg (by rw[h2];decide)]at vd
   refine⟨(i+1,_),⟨by omega,p1,q,eP,qn,(by rw[vd];exact hy),λ_=>wz (by omega)⟩,by simp only;omega,?_⟩;exact Cr
 ·have h':=aj h
  obtain rfl:i=8:=by omega
  exact⟨y,p,q,rfl,bM,hl (by omega),hy⟩
def wW(c:Rc)(k:ByteArray):List Int:=if kZ (jR k)then sB c (qI k)else[]
def sJ(c:Rc)(n:Int)(k:ByteArray):Bool:=(wW c k).contains n
def ko(c:Rc)(k:ByteArray)(n:Int):List Int:=(wW c k).filter λx=>!decide (x=n)
def ng(c:Rc)(a n:Int):List Int:=if a=n then[]else(x8 c a).filter (l4 c n)
def wU(c:Rc)(a n:Int):Bool:=decide (0<(ng c a n).length)
def pX(c:Rc)(a:Int)(k:Nat):List Int:=((List.range k).map λ(i:Nat)=>((i+1:Nat):Int)).filter (wU c a)
def kw(c:Rc)(a:Int):List Int:=pX c a c.jv.toNat
theorem zr(hc:c.ok=true)(k:ByteArray):(wW c k).length<=128:=by
 unfold wW;split
 ·exact DE hc _
 ·simp
section
variable {mm m p:aD}{b:Nat}{c:Rc}
theorem GJ{k:ByteArray}(hS:cK m)(hc:c.ok=true)(hs:aq mm [p,m])(hr:jY p b c)(hk:k.size<=1000000):
  bi tP 49 [cx b,.v (.string k)] mm λr m'=>∃v p' q,r=[.v v]/\aq m' [p',q,m]/\jY p' b c/\Io q v (wW c k):=by
 refine ub Tryz.func49 ?_;refine bt (iB hk) ?_;conv=>whnf
 unfold wW;apply bI<;>intro h
 ·have h':kZ (jR k)=false:=by simpa using h
  rw[h'];exact⟨_,p,iI,rfl,hs.cA.ir [1,0,2],hr,Io.nil _⟩
 ·have h':kZ (jR k)=true:=by simpa using h
  rw[h'];have hp:=K7 k;refine aP (K6 hk) ?_;rintro _ m1⟨rfl,bM⟩;refine aP (Lw hS hc (hs.grow bM) hr (by omega)) ?_;rintro _ m2⟨v,p',q,rfl,bZ,jK,hq,_⟩;exact⟨v,p',q,rfl,bZ,jK,hq⟩
theorem tN{k:ByteArray}{n:Int}(hS:cK m)(hc:c.ok=true)(hs:aq mm [p,m])(hr:jY p b c)(hk:k.size<=1000000):
  bi tP 19 [cx b,i64 n,.v (.string k)] mm λr m'=>∃p',r=[bR (sJ c n k)]/\aq m' [p',m]/\jY p' b c:=by
 refine ub Tryz.func19 ?_;refine aP (GJ hS hc hs hr hk) ?_;rintro _ m1⟨v,p',q,rfl,bM,qn,hq⟩;have:=zr hc k;refine bt (oD (hq.il.sub (bM.sub)).ia (by omega)) ?_;exact⟨p',rfl,bM.ir [0,2],qn⟩
theorem Nc{m:aD}{x n:Int}{b5:Nat}(hb:m b5=some (.cells #[.int .i64 n] 3)):eN tP 144 [i64 x,cx b5] m [bR (decide (x=n))]:=by
 refine ub Tryz.func144 ?_;refine xM hb ?_;exact⟨by rw[<-qO],rfl⟩
theorem P7{k:ByteArray}{n:Int}(hS:cK m)(hc:c.ok=true)(hs:aq mm [p,m])(hr:jY p b c)(hk:k.size<=1000000):
  bi tP 78 [cx b,.v (.string k),i64 n] mm λr m'=>∃v p' q,r=[.v v]/\aq m' [p',q,m]/\jY p' b c/\Io q v (ko c k n):=by
 refine A4 c78 Tryz.func78 ?_;intro b5 mo;obtain⟨q0,NP,bM,yC⟩:=((hs.new mo (.cells #[.int .i64 n] 3)).ir [1,0,2]).fb;refine aP (GJ (hS.sub (NP m (by simp))) hc bM hr hk) ?_;rintro _ m2⟨v,p',q,rfl,bZ,jK,hq⟩;refine .mk _ (df (cs:=[.pointer (some ⟨b5,0,none⟩)]) (by simp[Value.oneCell'])) ?_;rintro _ _⟨rfl,rfl⟩;have dy:aq m2 [p',q,blk1 b5 (.cells #[.int .i64 n] 3),m]:=yC _ [_,_] bZ;obtain⟨q1,mQ,eP,Vh⟩:=(dy.ir [1,0,2,3]).fb;have:=zr hc k;refine aP (Iz (pr:=λx=>decide (x=n)) eP hq.it (λm' hm e _=>Nc (hm _ _ (mQ (blk1 b5 (.cells #[.int .i64 n] 3)) (by simp) _ _ (aG ..)))) (by omega)) ?_;rintro _ m3⟨v',p2,rfl,eD,pY⟩;have gC:aq m3 [p2,p',blk1 b5 (.cells #[.int .i64 n] 3),m]:=Vh _ [_] eD;exact⟨v',p',p2,rfl,gC.ir [1,0,3],jK,pY.io⟩
theorem MK{m:aD}{x n:Int}{b b3 b5:Nat}{lv:Value}(hc:c.ok=true)(h3:m b3=some (.cells #[.pointer (some ⟨b,0,none⟩)] 65))(h5:m b5=some (.cells #[.int .i64 n] 3))(hb:m b=some (eO c 1 0 0 lv))(hq:Pta m lv (ja c))(hx:0<=x/\x<=7):
  eN tP 158 [i64 x,cx b3,cx b5] m [bR (!l4 c n x)]:=by
 refine ub Tryz.func158 ?_;refine xM h3 ?_;refine xM h5 ?_;refine bt (U0 hc hb hq (by omega)) ?_;exact rR
theorem Ug{a:Int}{i:Nat}{x:Int}(h:x∈x9 c a i):0<=x/\x<i:=by
 obtain⟨j,hj,rfl⟩:=aV.1 (cH.1 h).1;have:=dS.1 hj;omega
theorem Uf{a x:Int}(h:x∈x8 c a):0<=x/\x<=7:=by
 have:=Ug (i:=8) h;omega
theorem G5(c:Rc)(a:Int):(x8 c a).length<=8:=G6 c a 8
theorem PD(c:Rc)(a n:Int):(ng c a n).length<=8:=by
 unfold ng;split
 ·simp
 ·exact bq (bC _ _) (G5 c a)
theorem Ej{a n:Int}(hS:cK m)(hc:c.ok=true)(hs:aq mm [p,m])(hr:jY p b c):
  bi tP 88 [cx b,i64 a,i64 n] mm λr m'=>∃v p' q,r=[.v v]/\aq m' [p',q,m]/\jY p' b c/\Io q v (ng c a n):=by
 refine A4 c88 Tryz.func88 ?_;intro b3 Ah;intro b5 mo;have LK:=(hs.new Ah (.cells #[.pointer (some ⟨b,0,none⟩)] 65)).new mo (.cells #[.int .i64 n] 3);refine xM (aD.bg ..) ?_;conv=>whnf
 unfold ng;apply bI<;>intro h
 ·have h':a=n:=by simpa using h
  conv=>whnf
  rw[aC h'];exact⟨_,p,iI,rfl,(LK.ir [2,3]).cA.ir [1,0,2],hr,Io.nil _⟩
 ·have h':¬a=n:=by simpa using h
  conv=>whnf
  rw[if_neg h'];refine⟨_,aF (LK.get (a:=blk1 b3 (.cells #[.pointer (some ⟨b,0,none⟩)] 65)) (by simp) (aG ..)) rfl,rfl,?_⟩;obtain⟨q0,NP,bM,yC⟩:=(LK.ir [2,0,1,3]).fb;refine aP (Ue (n:=a) (hS.sub (NP m (by simp))) hc bM hr) ?_;rintro _ m2⟨v,p',q,rfl,bZ,jK,hq⟩;refine .mk _ (df (cs:=[.pointer (some ⟨b3,0,none⟩),.pointer (some ⟨b5,0,none⟩)]) (by simp[Value.oneCell'])) ?_;rintro _ _⟨rfl,rfl⟩;have dy:aq m2 [p',q,blk1 b5 (.cells #[.int .i64 n] 3),blk1 b3 (.cells #[.pointer (some ⟨b,0,none⟩)] 65),m]:=yC _ [_,_] bZ;obtain⟨q1,mQ,eP,Vh⟩:=(dy.ir [1,0,2,3,4]).fb;have hl:=G5 c a;obtain⟨lv,g1,g2⟩:=jK.Wv (mQ p' (by simp));refine aP (Iy (pr:=λx=>!l4 c n x) eP hq.it (λm' hm e he=>MK hc (hm _ _ (mQ _ (by simp) _ _ (aG b3 _))) (hm _ _ (mQ _ (by simp) _ _ (aG b5 _))) (hm _ _ g1) (g2.sub hm) (Uf he)) (by omega)) ?_;rintro _ m3⟨v',p2,rfl,eD,pY⟩;have gC:aq m3 [p2,p',blk1 b5 (.cells #[.int .i64 n] 3),blk1 b3 (.cells #[.pointer (some ⟨b,0,none⟩)] 65),m]:=Vh _ [_] eD;refine⟨v',p',p2,rfl,gC.ir [1,0,4],.inr jK,?_⟩;have e:((x8 c a).filter λe=>!(λx=>!l4 c n x) e)=(x8 c a).filter (l4 c n):=by simp
  rw[<-e];exact pY.io
theorem M8(c:Rc)(a:Int)(k:Nat):pX c a (k+1)=if wU c a ((k+1:Nat):Int)then pX c a k++[((k+1:Nat):Int)]else pX c a k:=by
 unfold pX;rw[Ji,bD,aaB]
 cases h:wU c a ((k+1:Nat):Int)<;>simp at h<;>simp[h]
theorem Eu(c:Rc)(a:Int)(k:Nat):(pX c a k).length<=k:=by
 have:=bC (wU c a) ((List.range k).map λ(i:Nat)=>((i+1:Nat):Int));rw[aH,List.length_range]at this;exact this
theorem jY.Wv{p m:aD}(h:jY p b c)(hs:cL p m):∃d st se lv,m b=some (eO c d st se lv):=by
 rcases h with h|h
 ·exact⟨_,_,_,_,hs _ _ (h.get (a:=blk1 b (eO c 0 0 0 (.slice none 0 0))) (by simp) (aG ..))⟩
 ·obtain⟨lv,h1,_⟩:=h.Wv hs
  exact⟨_,_,_,_,h1⟩
theorem Ud{a:Int}(hS:cK m)(hc:c.ok=true)(hs:aq mm [p,m])(hr:jY p b c):
  bi tP 85 [cx b,i64 a] mm λr m'=>∃v p' q,r=[.v v]/\aq m' [p',q,m]/\jY p' b c/\Io q v (kw c a):=by
 obtain⟨⟨n1,n2⟩,_,_⟩:=Rc.lj.1 hc;obtain⟨n,rn,en⟩:∃n:Nat,c.jv=n/\c.jv.toNat=n:=⟨c.jv.toNat,by omega,rfl⟩;unfold kw;rw[en];refine ub Tryz.func85 ?_;refine .mk (ι:=Nat×Value) (λi=>n-i.1) (λ⟨i,y⟩ mm=>i<=n/\∃p q,aq mm [p,q,m]/\jY p b c/\Io q y (pX c a i)) (λ⟨i,y⟩=>[(0,.c (cx b)),(1,.c (i64 a)),(5,.c (.v y)),(6,.c (i64 ((i+1:Nat):Int)))]) (λ_=>[]) (0,.slice none 0 0) ⟨by omega,p,iI,hs.cA.ir [1,0,2],hr,Io.nil _⟩ ?_ ?_
 ·exact Cr
 rintro⟨i,y⟩ mm ⟨hi,p,q,bM,hr,hy⟩;obtain⟨d,st,se,lv,hb⟩:=hr.Wv (bM.sub);have vd:=M8 c a i;have CU:=Eu c a i;generalize DL:pX c a i=dE at hy CU vd;obtain⟨ya,yc,rfl⟩:=hy.il.ia.shape;refine bt (T9 hb) ?_;apply bI<;>intro h
 ·have h':=ah h
  have bH:i<n:=by omega
  obtain⟨q0,NP,bZ,yC⟩:=bM.fb;refine aP (Ej (a:=a) (n:=((i+1:Nat):Int)) (hS.sub (NP _ (by simp))) hc bZ hr) ?_;rintro _ m3⟨v,p1,q1,rfl,dy,qn,mQ⟩;have eP:aq m3 [p1,q1,q,m]:=yC _ [_,_] dy;obtain⟨va,vc,rfl⟩:=mQ.il.ia.shape;apply bI<;>intro h2
  ·have iD:wU c a ((i+1:Nat):Int)=true:=by have:=ah h2;exact bB (by omega)
   rw[aC iD]at vd;refine .mk _ (qa) ?_;rintro _ _⟨b7,Te,rfl,rfl⟩;refine .mk _ (Es (eP.ir [2,0,3]) Te hy (by omega)) ?_;rintro _ m9⟨y',py',rfl,zv,I7⟩;refine⟨(i+1,y'),⟨by omega,p1,py',zv.ir [1,0,2],qn,by rw[vd];exact I7⟩,by simp only;omega,?_⟩;exact Cr
  ·have iD:wU c a ((i+1:Nat):Int)=false:=by have:=aj h2;exact aY (by omega)
   rw[if_neg (by rw[iD];decide)]at vd;refine⟨(i+1,_),⟨by omega,p1,q,eP.ir [0,2,3],qn,by rw[vd];exact hy⟩,by simp only;omega,?_⟩;exact Cr
 ·have h':=aj h
  obtain rfl:i=n:=by omega
  refine⟨_,p,q,rfl,bM,hr,?_⟩;rw[DL];exact hy
end
structure fw where
 c:Rc
 w:Bk
 (n:Int)
 s:jf
 (A:List Af)
 (nb:Nat)
 (ns:Nat)
 (B:kf)
 l:List kl
 (bQ:Int)
 (dO:Int)
structure Jg where
 a:Nat
 (br:Nat)
 (bs:Nat)
 (bb:Nat)
 (bf:Nat)
abbrev Sq(c:Rc)(w:Bk):LB:=[.one (.int .i64 c.jv),.one (.int .i64 c.AO),.one (.int .i64 c.xm),.one (.int .i64 w.gM),.one (.int .i64 w.cap),.one (.int .i64 w.dG),.one (.int .i64 w.gI)]
abbrev iq(X:Jg)(N:fw)(lv:Value):Obj:=.cells #[.int .i64 N.c.jv,.int .i64 N.c.AO,.int .i64 N.c.xm,.int .i64 N.w.gM,.int .i64 N.w.cap,.int .i64 N.w.dG,.int .i64 N.w.gI,.int .i64 N.n,.pointer (some ⟨X.br,0,none⟩),.pointer (some ⟨X.bs,0,none⟩),.pointer (some ⟨X.bb,0,none⟩),lv,.int .i64 N.bQ,.int .i64 N.dO] 105
structure J8(p q:aD)(v:Value)(l:List kl)(R:List AM):Prop where
 o:Seo p v R
 (e:R.map (·.1)=l)
 a:∀r∈R,qZ q r.1 r.2
variable{R:List AM}{q':aD}
theorem J8.sub{q:aD}{l:List kl}(h:J8 p q v l R)(hs:cL q q'):J8 p q' v l R:=⟨h.o,h.e,λr hr=>(h.a r hr).sub hs⟩
structure NdP(p q:aD)(X:Jg)(qt:Int)(N:fw)(lv:Value)(pr ps pf pb pl:aD)(R:List AM):Prop where
 sp:aq p [blk1 X.a (iq X N lv),pr,ps,pf,pb,pl]
 r:jY pr X.br N.c
 s:SQ ps q X.bs X.bf N.s
 f:FA pf X.bf qt N.nb N.ns N.A
 b:y5 pb q X.bb N.B
 l:J8 pl q lv N.l R
def y0(p q:aD)(X:Jg)(qt:Int)(N:fw):Prop:=∃lv pr ps pf pb pl R,NdP p q X qt N lv pr ps pf pb pl R
structure nS(mm q:aD)(X:Jg)(qt:Int)(N:fw)(lv:Value)(pr ps pf pb pl:aD)(R:List AM):Prop where
 sp:aq mm [blk1 X.a (iq X N lv),pr,ps,pf,pb,pl,q]
 r:jY pr X.br N.c
 s:SQ ps q X.bs X.bf N.s
 f:FA pf X.bf qt N.nb N.ns N.A
 b:y5 pb q X.bb N.B
 l:J8 pl q lv N.l R
variable {mm p q:aD}{X:Jg}{qt:Int}{N:fw}
theorem y0.sub(h:y0 p q X qt N)(hs:cL q q'):y0 p q' X qt N:=by
 obtain⟨lv,pr,ps,pf,pb,pl,R,h⟩:=h;exact⟨lv,pr,ps,pf,pb,pl,R,h.sp,h.r,h.s.sub hs,h.f,h.b.grow hs,h.l.sub hs⟩
theorem y0.op(h:y0 p q X qt N)(hs:aq mm [p,q]):∃lv pr ps pf pb pl R,nS mm q X qt N lv pr ps pf pb pl R:=by
 obtain⟨lv,pr,ps,pf,pb,pl,R,h⟩:=h;exact⟨lv,pr,ps,pf,pb,pl,R,aq.tQ hs h.sp,h.r,h.s,h.f,h.b,h.l⟩
structure tD(m' q:aD)(X:Jg)(qt:Int)(N:fw):Prop where
 ex:∃p' q',aq m' [p',q']/\cL q q'/\y0 p' q' X qt N
variable{ps m' pr pf pb pl:aD}
theorem tD.of(h:nS m' q' X qt N lv pr ps pf pb pl R)(hq:cL q q'):tD m' q X qt N:=by
 obtain⟨h2,h3⟩:=aq.k9 [blk1 X.a (iq X N lv),pr,ps,pf,pb,pl] (l:=[q']) h.sp;exact⟨_,q',h2,hq,lv,pr,ps,pf,pb,pl,R,h3,h.r,h.s,h.f,h.b,h.l⟩
theorem tD.lB{q0:aD}(h:tD m' q X qt N)(hq:cL q0 q):tD m' q0 X qt N:=by
 obtain⟨p',q',h1,h2,h3⟩:=h.ex;exact⟨p',q',h1,hq.trans h2,h3⟩
theorem tD.cR(hs:aq mm [p,q])(h:y0 p q X qt N):tD mm q X qt N:=⟨p,q,hs,cL.refl _,h⟩
section
variable {lv:Value}{pr ps pf pb pl:aD}{R:List AM}
theorem nS.o(h:nS mm q X qt N lv pr ps pf pb pl R):mm X.a=some (iq X N lv):=h.sp.get (a:=blk1 X.a (iq X N lv)) (by simp) (aG ..)
theorem nS.gM(h:nS mm q X qt N lv pr ps pf pb pl R):cL q mm:=h.sp.sub (by simp)
theorem nS.sr(h:nS mm q X qt N lv pr ps pf pb pl R):∃bl lv sv,SR mm X.bs X.bf N.s bl lv sv:=h.s.lU (h.sp.sub) h.gM
theorem nS.up{m' p1:aD}(h:nS mm q X qt N lv pr ps pf pb pl R)(hs:aq m' [p1,mm]):∃q',cL q q'/\cL p1 q'/\nS m' q' X qt N lv pr ps pf pb pl R:=by
 have h1:aq m' [p1,blk1 X.a (iq X N lv),pr,ps,pf,pb,pl,q]:=aq.jN (a:=[p1]) hs h.sp;obtain⟨q',ha,hb,h2⟩:=aq.sK (h1.ir [0,7,1,2,3,4,5,6]);exact⟨q',hb,ha,h2.ir [1,2,3,4,5,6,0],h.r,h.s.sub hb,h.f,h.b.grow hb,h.l.sub hb⟩
theorem nS.grow{m':aD}(h:nS mm q X qt N lv pr ps pf pb pl R)(hs:cL mm m'):nS m' q X qt N lv pr ps pf pb pl R:=⟨h.sp.grow hs,h.r,h.s,h.f,h.b,h.l⟩
theorem nS.one(h:nS mm q X qt N lv pr ps pf pb pl R):lv.oneCell'=true:=by obtain⟨_,_,e⟩:=h.l.o.el.shape;rw[e];rfl
end
theorem qk{w:Bk}:eN tP 30 [.a (Sq c w)] m [bR (c.ok&&w.ok)]:=by
 refine ub Tryz.func30 ?_;refine bt (Ek) ?_;apply bI<;>intro h;rotate_left
 ·exact⟨by rw[h];rfl,rfl⟩
 rw[h,bj];refine bt (nP) ?_;exact rR
section
variable {lv:Value}
theorem A7(h:mm X.a=some (iq X N lv)):eN tP 35 [cx X.a] mm [bR true]:=by
 refine ub Tryz.func35 ?_;refine xY ?_;refine xM h ?_;exact rR
theorem BW(h:mm X.a=some (iq X N lv)):eN tP 29 [cx X.a] mm [i64 N.n]:=by
 refine ub Tryz.func29 ?_;refine xN ?_;refine xM h ?_;exact rR
theorem Lj(h:mm X.a=some (iq X N lv)):eN tP 14 [cx X.a] mm [i64 N.bQ]:=by
 refine ub Tryz.func14 ?_;refine xN ?_;refine xM h ?_;exact rR
theorem yg(h:mm X.a=some (iq X N lv)):eN tP 11 [cx X.a] mm [cx X.bs]:=by
 refine ub Tryz.func11 ?_;refine xN ?_;refine xM h ?_;exact rR
end
def fw.send(N:fw)(x:gX):fw:={N with B:=N.B.send x (N.s.R.length:Nat)}
def fw.nX(N:fw)(x:Rv):fw:={N with B:=N.B.nX x (N.s.R.length:Nat)}
structure IY(x:gX):Prop where
 ok:qx x
 (d:XO x)
 k:(x.ca.map nJ).flatten.length<=9000000
theorem nS.box(h:nS mm q X qt N lv pr ps pf pb pl R):∃j,aq j [pb,q]/\aq mm [j,blk1 X.a (iq X N lv),pr,ps,pf,pl]:=
 aq.ad9 (k:=[pb,q]) (h.sp.ir [4,6,0,1,2,3,5])
theorem nS.aeQ{S4 j:aD}{B:kf}(h:nS mm q X qt N lv pr ps pf pb pl R)(hs:aq m' [j,blk1 X.a (iq X N lv),pr,ps,pf,pl])(h1:aq j [S4,q'])(h2:cL q q')(h3:y5 S4 q' X.bb B):nS m' q' X qt {N with B:=B} lv pr ps pf S4 pl R:=
 ⟨(aq.tQ hs h1).ir [2,3,4,5,0,6,1],h.r,h.s.sub h2,h.f,h3,h.l.sub h2⟩
structure NdB(m' q:aD)(X:Jg)(qt:Int)(N:fw)(lv:Value)(pr ps pf pl:aD)(R:List AM):Prop where
 ex:∃S4 q',cL q q'/\nS m' q' X qt N lv pr ps pf S4 pl R
theorem NdB.l(h:NdB m' q X qt N lv pr ps pf pl R):tD m' q X qt N:=by
 obtain⟨S4,q',h1,h2⟩:=h.ex;exact .of h2 h1
theorem NdB.lB{q0:aD}(h:NdB m' q X qt N lv pr ps pf pl R)(h0:cL q0 q):NdB m' q0 X qt N lv pr ps pf pl R:=by
 obtain⟨S4,q',h1,h2⟩:=h.ex;exact⟨S4,q',h0.trans h1,h2⟩
section
variable {lv:Value}{pr ps pf pb pl:aD}{R:List AM}
theorem Ew{x:gX}{s:iS}(hS:cK q)(hn:nS mm q X qt N lv pr ps pf pb pl R)(hx:gy q x s)(ho:IY x)(hl:N.B.dE.length<500):
  bi tP 80 [cx X.a,mT x s] mm λr m'=>r=[]/\NdB m' q X qt (N.send x) lv pr ps pf pl R:=by
 obtain⟨bl,lv2,sv,AF⟩:=hn.sr;obtain⟨j,hj,bM⟩:=hn.box;refine A4 c80 Tryz.func80 ?_;refine xM hn.o ?_;refine xM hn.o ?_;refine fU (KM AF) ?_;refine aP (bi.frame bM (Un hS hj hn.b hx ho.ok ho.d ho.k hl (by omega))) ?_;rintro _ m2⟨j',⟨S4,q',rfl,h1,h2,h3⟩,bZ⟩;exact⟨rfl,⟨S4,q',h2,hn.aeQ bZ h1 h2 h3⟩⟩
theorem Hd{x:gX}{s:iS}(hS:cK q)(hs:aq mm [p,q])(h:y0 p q X qt N)(hx:gy q x s)(ho:IY x)(hl:N.B.dE.length<500):
  bi tP 80 [cx X.a,mT x s] mm λr m'=>r=[]/\tD m' q X qt (N.send x):=by
 obtain⟨lv,pr,ps,pf,pb,pl,R,hn⟩:=h.op hs;exact(Ew hS hn hx ho hl).mono λr m' ⟨h1,h2⟩=>⟨h1,h2.l⟩
theorem Qh{x:Rv}{s:CN}(hn:nS mm q X qt N lv pr ps pf pb pl R)(hx:Ia q (.slice s.1 x.l.length s.2) x.l)(zu:x.l.length<=100000)(hl:N.B.o7.length<=1000)(he:x.err=0):
  bi tP 77 [cx X.a,i64 x.id,.v (.slice s.1 x.l.length s.2)] mm λr m'=>r=[]/\NdB m' q X qt (N.nX x) lv pr ps pf pl R:=by
 obtain⟨bl,lv2,sv,AF⟩:=hn.sr;obtain⟨j,hj,bM⟩:=hn.box;refine A4 c77 Tryz.func77 ?_;refine xM hn.o ?_;refine xM hn.o ?_;refine fU (KM AF) ?_;obtain⟨xi,xe,xl⟩:=x;simp only at he hx zu;subst he;refine aP (bi.frame bM (Um (x:=⟨xi,0,xl⟩) (s:=s) hj hn.b hx zu hl (by omega))) ?_;rintro _ m2⟨j',⟨S4,q',rfl,h1,h2,h3⟩,bZ⟩;exact⟨rfl,⟨S4,q',h2,hn.aeQ bZ h1 h2 h3⟩⟩
theorem Hc{x:Rv}{s:CN}(hs:aq mm [p,q])(h:y0 p q X qt N)(hx:Ia q (.slice s.1 x.l.length s.2) x.l)(zu:x.l.length<=100000)(hl:N.B.o7.length<=1000)(he:x.err=0):
  bi tP 77 [cx X.a,i64 x.id,.v (.slice s.1 x.l.length s.2)] mm λr m'=>r=[]/\tD m' q X qt (N.nX x):=by
 obtain⟨lv,pr,ps,pf,pb,pl,R,hn⟩:=h.op hs;exact(Qh hn hx zu hl he).mono λr m' ⟨h1,h2⟩=>⟨h1,h2.l⟩
end
variable{x:kl}
theorem as0{L:List Kd}(h:(E6 x L).2=0):(E6 x L).1=Aa x L/\gx x=true/\cX L=true:=by
 unfold E6 at h⊢
 split at h
 ·cases h
 ·rename_i h1
  split at h
  ·cases h
  ·rename_i h2
   rw[if_neg h1,if_neg h2];simp only[not_or]at h1;exact⟨rfl,by simpa using h1.1,by simpa using h1.2⟩
theorem FZ{L:List Kd}(hv:lu m v L)(hg:∀x∈L,ki x)(hl:L.length<=1300):Bz m v L:=
 ⟨hv,λx hx=>(hg x hx).arg,λx hx=>by have:=(hg x hx).key;omega,by omega,by have:=B2 λx hx=>(hg x hx).len.2;omega⟩
def fw.CR(N:fw)(x:kl):fw:=if (E6 x N.s.L).2=0 then N.send (Aa x N.s.L)else N
theorem agf{L:List Kd}(hx:gx x=true)(hr:cX L=true)(hg:∀x∈L,ki x)(hl:L.length<=1300):IY (Aa x L):=by
 have zw:=De hx;have CU:=x6 zw.2.2.2.2.2.2.1 (by omega)
 have iH:(Aa x L).ca.Sublist L:=by
  unfold Aa;dsimp only;split
  ·exact IK hr _ _
  ·exact List.nil_sublist _
 have hm:∀c∈(Aa x L).ca,ki c:=λc hc=>hg c (iH.subset hc);refine⟨⟨λc hc=>(hm c hc).arg,λc hc=>by have:=(hm c hc).key;omega,λc hc=>(hm c hc).arg.n,bq iH.length_le (by omega),by show x.pl.length<=_;omega,by show([]:List (List Nat)).length<=_;simp⟩,⟨?_,by show ∀d∈([]:List (List Nat)),_;simp⟩,?_⟩
 ·show ∀n∈(if x.round=1 then Tr.jI (lN L x.part) 0 else fX),n<256
  split
  ·exact Tr.Ot (xI _ _).xA _
  ·intro n hn;simp[fX]at hn;omega
 ·have:=B2 λx hx=>(hm x hx).len.2
  have:=iH.length_le;omega
theorem A6{s:CN}(hS:cK q)(hn:nS mm q X qt N lv pr ps pf pb pl R)(hx:qZ q x s)(hG:∀x∈N.s.L,ki x)(hL:N.s.L.length<=1300)(hl:N.B.dE.length<500):
  bi tP 83 [cx X.a,uR x s] mm λr m'=>r=[]/\NdB m' q X qt (N.CR x) lv pr ps pf pl R:=by
 obtain⟨bl,lv2,sv,AF⟩:=hn.sr;have hq:=hn.gM;refine A4 c83 Tryz.func83 ?_;refine xM hn.o ?_;refine aP (TT AF (by omega) (λx hx=>by have:=(hG x hx).arg.n;omega)) ?_;rintro _ m1⟨v,rfl,hv,bM⟩;refine⟨yt hn.o bM,?_⟩;refine aP (abL (hS.sub (hq.trans bM)) (hx.sub (hq.trans bM)) (FZ hv hG hL)) ?_;rintro _ m2⟨s',p2,rfl,bZ,hm⟩;obtain⟨q2,hb,ha,kV⟩:=(hn.grow bM).up bZ;have hY:N.CR x=if (E6 x N.s.L).2=0 then N.send (Aa x N.s.L)else N:=rfl
 apply bI<;>intro h1
 ·have h2:(E6 x N.s.L).2=0:=by simpa using h1
  obtain⟨e1,e2,e3⟩:=as0 h2;rw[hY,aC h2];rw[e1]at hm⊢;refine aP (Ew (hS.sub hb) kV (hm.sub ha) (agf e2 e3 hG hL) hl) ?_;rintro _ m3⟨rfl,hL2⟩;exact⟨rfl,hL2.lB hb⟩
 ·have h2:(E6 x N.s.L).2≠0:=by simpa using h1
  rw[hY,if_neg h2];exact⟨rfl,⟨pb,q2,hb,kV⟩⟩
structure pO(qt:Int)(j k:Nat)(N:fw):Prop where
 fi:FI qt N.A N.s
 (qr:0<=qt/\qt<=9223372036854775807)
 rl:N.s.P.length+N.s.R.length<=j
 al:∀a∈N.A,a.l.length<=6700*j
 an:N.A.length+(if N.s.R=[]then 1 else 0)<=k
 nb:N.nb<=10000000*(j+k)
 (ns:N.ns<=k)
 nm:Eg N.A
 (g:N.s.g+1<=k)
variable {mm p q:aD}{X:Jg}{qt:Int}{N:fw}{j k:Nat}
theorem pO.sm(h:pO qt j k N)(hj:j<=1300)(hk:k<=500):Sm 1000 N.A N.nb N.ns:=by
 have h1:=h.an;have h2:=h.nb;have h3:=h.ns;have hle:10000000*(j+k)<=10000000*1800:=iV _ (by omega);exact⟨λa ha=>by have:=h.al a ha;have:6700*j<=6700*1300:=iV _ hj;omega,by omega,by omega,by omega,by omega⟩
theorem pO.ll(h:pO qt j k N):N.s.L.length<=j:=bq (abN _) h.rl
theorem pO.gl(h:pO qt j k N):∀x∈N.s.L,ki x:=h.fi.gl
theorem pO.up{j' k':Nat}(h:pO qt j k N)(hj:j<=j')(hk:k<=k'):pO qt j' k' N:=
 ⟨h.fi,h.qr,bq h.rl hj,λa ha=>bq (h.al a ha) (iV _ hj),bq h.an hk,bq h.nb (iV _ (by omega)),bq h.ns hk,h.nm,bq h.g hk⟩
variable{A:List Af}
theorem acD{n:ByteArray}{l:List Nat}(hn:n.size<=1000000)(h:Eg A):Eg (kL A n l):=by
 induction A with
 |nil=>intro a ha;simp[kL]at ha;rw[ha];exact hn
 |cons x A ih=>
  have hx:=h x (by simp);have ih:=ih λa ha=>h a (by simp[ha]);unfold kL;split
  ·intro a ha
   rcases aU.1 ha with rfl|ha
   ·exact hx
   ·exact h a (by simp[ha])
  ·intro a ha
   rcases aU.1 ha with rfl|ha
   ·exact hx
   ·exact ih a ha
theorem afb{n:ByteArray}{l:List Nat}(h:bS A n≠none):(kL A n l).length=A.length:=by
 induction A with
 |nil=>exact absurd rfl h
 |cons x A ih=>
  unfold kL;split
  ·simp
  ·rename_i ga
   rw[bd,bd,ih];rw[bS,List.find?_cons_of_neg (by simpa [eq_comm]using ga)]at h;exact h
def fw.put(N:fw)(x:Kd):fw:={N with s:=N.s.put x,A:=kL N.A (gK N.s.g) (z6 (Fr.wr (nJ x))),nb:=N.nb+(Fr.wr (nJ x)).length}
def fw.fT(qt:Int):fw->List Kd->fw×Int
 |N,[]=>(N,0)
 |N,x::L=>if rq qt N.A N.s x=0 then fw.fT qt (N.put x) L else(N,rq qt N.A N.s x)
variable{x:Kd}
theorem KX{s:jf}(h:rq qt A s x=0):sW s x.1 x.2=0/\¬H7 qt A x:=by
 unfold rq at h
 split at h
 ·rename_i h1;exact absurd h h1
 ·rename_i h1
  split at h
  ·cases h
  ·rename_i h2;exact⟨by simpa using h1,h2⟩
theorem pO.put(h:pO qt j k N)(hu:yZ x.2.1)(he:rq qt N.A N.s x=0):pO qt (j+1) k (N.put x):=by
 obtain⟨h1,h2⟩:=KX he;obtain⟨k1,k2,k3⟩:=Ef h1;have hx:ki x:=⟨k1,hu,k2⟩;have Xd:=hx.len;have hwl:=C3 (l:=nJ x) (by omega);obtain⟨t1,t2,t3⟩:=F0 (gK N.s.g) (z6 (Fr.wr (nJ x))) N.A;rw[vL]at t3;have hrl:=h.rl;have hnb:=h.nb;have han:=h.an;refine⟨h.fi.put k3 hx h2,h.qr,?_,λa ha=>bq (t3 _ h.al a ha) (by omega),?_,?_,h.ns,acD (by rw[u2];omega) h.nm,h.g⟩
 ·show N.s.P.length+(N.s.R++[x]).length<=j+1
  rw[ax,eV];omega
 ·show(kL N.A (gK N.s.g) (z6 (Fr.wr (nJ x)))).length+(if N.s.R++[x]=[]then 1 else 0)<=k
  rw[if_neg (by simp)];by_cases hR:N.s.R=[]
  ·rw[aC hR]at han;omega
  ·rcases h.fi.lg with⟨_,e⟩|⟨sf,e,_⟩
   ·exact absurd e hR
   ·rw[afb (by rw[e];simp)];omega
 ·show N.nb+(Fr.wr (nJ x)).length<=_
  have:10000000*(j+1+k)=10000000*(j+k)+10000000:=by omega
  omega
theorem pO.fT(h:pO qt j k N){L:List Kd}(hL:∀x∈L,yZ x.2.1):pO qt (j+L.length) k (N.fT qt L).1:=by
 induction L generalizing N j with
 |nil=>exact h
 |cons x L ih=>
  unfold fw.fT;split
  ·rename_i he
   have:=ih (h.put (hL x (by simp)) he) λy hy=>hL y (by simp[hy]);rw[bd,show j+(L.length+1)=j+1+L.length by omega];exact this
  ·exact h.up (by omega) (by omega)
section
variable {lv:Value}{pr ps pf pb pl:aD}{R:List AM}
theorem nS.sto(h:nS mm q X qt N lv pr ps pf pb pl R):∃j,aq j [ps,pf,q]/\aq mm [j,blk1 X.a (iq X N lv),pr,pb,pl]:=
 aq.ad9 (k:=[ps,pf,q]) (h.sp.ir [2,3,6,0,1,4,5])
theorem nS.ME{m' j':aD}{A:List Af}{nb ns:Nat}{s:jf}(h:nS mm q X qt N lv pr ps pf pb pl R)(hs:aq m' [j',blk1 X.a (iq X N lv),pr,pb,pl])(hL:oJ j' q X.bs X.bf qt nb ns A s):tD m' q X qt {N with s:=s,A:=A,nb:=nb,ns:=ns}:=by
 obtain⟨p2,Va,q2,h1,h2,h3,h4⟩:=hL.ex;have h5:=aq.tQ hs h1;have h6:nS m' q2 X qt {N with s:=s,A:=A,nb:=nb,ns:=ns} lv pr p2 Va pb pl R:=⟨h5.ir [3,4,0,1,5,6,2],h.r,h3,h4,h.b.grow h2,h.l.sub h2⟩;exact .of h6 h2
end
theorem YR{L:List Kd}:(∀e,(N.fT qt L).2=e->e≠0->N.fT qt (L++[x])=N.fT qt L)/\((N.fT qt L).2=0->N.fT qt (L++[x])=if rq qt (N.fT qt L).1.A (N.fT qt L).1.s x=0 then((N.fT qt L).1.put x,0)else((N.fT qt L).1,rq qt (N.fT qt L).1.A (N.fT qt L).1.s x)):=by
 induction L generalizing N with
 |nil=>exact⟨λe h1 h2=>absurd h1.symm h2,λ_=>by simp only[bV,fw.fT];rfl⟩
 |cons y L ih=>
  simp only[db,fw.fT];split
  ·exact ih
  ·rename_i h;exact⟨λ_ _ _=>rfl,λh2=>absurd h2 h⟩
theorem ab3{L M:List Kd}(h:(N.fT qt L).2≠0):N.fT qt (L++M)=N.fT qt L:=by
 induction L generalizing N with
 |nil=>exact absurd rfl h
 |cons y L ih=>
  simp only[db,fw.fT]at h⊢
  split at h<;>rename_i h1
  ·rw[aC h1,aC h1];exact ih h
  ·rw[if_neg h1,if_neg h1]
theorem Lg{L:List Kd}(hg:jZ q)(hs:aq mm [p,q])(h:y0 p q X qt N)(hI:pO qt j k N)(hj:j+L.length<=1300)(hk:k<=500)(hv:lu q v L)(hA:∀x∈L,jg x)(EM:∀x∈L,x.1.size<=1000000):
  bi tP 161 [cx X.a,.v v] mm λr m'=>r=[i64 (N.fT qt L).2]/\tD m' q X qt (N.fT qt L).1:=by
 obtain⟨R,hR,hK⟩:=hv;have hlen:=hK.len;obtain⟨av,cv,rfl⟩:=hR.shape;refine A4 awG Tryz.func161 ?_;refine .mk (ι:=Nat) (λi=>R.length-i) (λi m'=>i<=R.length/\(N.fT qt (L.take i)).2=0/\tD m' q X qt (N.fT qt (L.take i)).1) (λi=>[(0,.c (cx X.a)),(9,.c (.v (.slice av R.length cv))),(10,.c (i64 R.length)),(11,.c (i64 i))]) (λ_=>[]) 0 ⟨by omega,rfl,tD.cR hs h⟩ ?_ ?_
 ·exact Cr
 rintro i m1⟨hi,Xi,hL1⟩;obtain⟨p1,q1,bM,mQ,ml⟩:=hL1.ex;have hI1:=hI.fT (L:=L.take i) λx hx=>(hA x (bX hx)).u;apply bI<;>intro h
 ·have h':=ah h
  have bH:i<R.length:=by omega
  have ahD:i<L.length:=by omega
  obtain⟨b2,ol,c',hh,js⟩:=(hR.sub (mQ.trans (bM.sub))).real bH;injection hh with eK _ fN;subst eK;have js:=js i bH;have hx:=hK.je i bH ahD;have dI:L.take (i+1)=L.take i++[L[i]]:=au ahD;have hxA:=hA L[i] (aO ahD);have hxk:=EM L[i] (aO ahD);have hsn:=(YR (qt:=qt) (N:=N) (L:=L.take i) (x:=L[i])).2 Xi
  have LU:∀e,e≠0->N.fT qt (L.take (i+1))=((N.fT qt (L.take i)).1,e)->N.fT qt L=((N.fT qt (L.take i)).1,e):=λe h1 h2=>by
   have h3:=ab3 (qt:=qt) (N:=N) (L:=L.take (i+1)) (M:=L.drop (i+1)) (by rw[h2];exact h1);rw[dL]at h3;rw[h3,h2]
  rw[<-dI]at hsn;rw[<-el8 hx]at js;have zu:=hx.len;have FO:=hx.e;have OQ:=hx.u8;have EN:j+(L.take i).length<=1300:=by rw[aK];omega
  generalize N.fT qt (L.take i)=NN at*;obtain⟨N1,e1⟩:=NN;simp only at Xi ml hI1 hsn LU;subst Xi;generalize L[i]=x at*;generalize R[i]=r at*;rw[zu]at FO;obtain⟨xk,xu,xE⟩:=x;obtain⟨rk,ru,ra,rn,rc⟩:=r;simp only at js FO OQ hxk;obtain⟨lv,pr,ps,pf,pb,pl,RS,hn⟩:=ml.op bM;have aAx:=hn.gM
  repeat refine xS ?_
  refine⟨[.one (.string xk),.bG .u64 8 xu,.one (.slice ra xE.length rc)],⟨rfl,OQ,rfl,trivial⟩,rfl,by simp only[bK,aA];exact js,?_⟩;refine xM hn.o ?_;obtain⟨j1,LR,bZ⟩:=hn.sto;refine aP (bi.frame bZ (AT (k:=xk) (u:=xu) (hg.sub mQ) LR hn.s hn.f (hI1.sm EN hk) (FO.sub mQ) hxA hxk hI1.qr (by have:=hI1.rl;omega) (by have:=hI1.ll;omega))) ?_;rintro _ m2⟨j2,u9,dy⟩;rcases u9 with⟨e1,rfl,hLq⟩|⟨e1,rfl,hLq⟩
  ·rw[if_neg e1]at hsn
   have cM:=LU _ e1 hsn;have Tc:=hn.ME dy hLq;refine⟨λ_=>?_,λh=>absurd h (by simpa using e1)⟩;conv=>whnf
   rw[cM];exact⟨rfl,Tc.lB mQ⟩
  ·rw[aC e1]at hsn
   have Tc:=hn.ME dy hLq;refine xN ?_;refine⟨i+1,⟨by omega,by rw[hsn],by rw[hsn];exact Tc.lB mQ⟩,by omega,?_⟩;exact Cr
 ·have h':=aj h
  obtain rfl:i=R.length:=by omega
  rw[hlen,aJ]at Xi hL1;exact⟨by rw[Xi],hL1⟩
end Go.E.Y
namespace Go.E
open Go.Proofs
theorem aq.Yf{mm p g m:aD}(h:aq mm [p,g,m]):aq mm [p,gY [g,m]]/\aq (gY [g,m]) [g,m]:=by
 have h1:aq mm ([g,m]++[p]):=h.ir [1,2,0];obtain⟨h2,h3⟩:=aq.k9 _ h1;exact⟨h2.ir [1,0],h3⟩
end Go.E
namespace Go.E.Y
open Go.Proofs
variable{m:aD}
theorem dC.of{R:List Rk}{L:List Kd}(hl:R.length=L.length)(h:∀i (h1:i<R.length) (h2:i<L.length),pP m R[i] L[i]):dC m R L:=⟨hl,h⟩
theorem xQ{bs bf bl:Nat}{s:jf}{lv sv:Value}(h:SR m bs bf s bl lv sv)(hl:s.L.length<=100000)(hE:∀x∈s.L,x.2.2.length<=100000):
  bi tP 18 [fy bs] m λr m'=>∃v p,r=[.v v]/\aq m' [p,m]/\lu p v s.L:=by
 obtain⟨R,hR,hK⟩:=h.l;have ho:=h.o;obtain⟨av,cv,rfl⟩:=hR.shape;have hlen:=hK.len;refine ub Tryz.func18 ?_;refine xN ?_;refine xM ho ?_;refine aP (nO hR (by omega)) ?_;rintro _ m1⟨vk,pk,rfl,bM,hpk⟩;obtain⟨ak,ck,rfl⟩:=hpk.el.shape;have bM:aq m1 [pk,iI,m]:=bM.cA.ir [1,0,2];refine .mk (ι:=Nat) (λi=>R.length-i) (λi mm=>i<=R.length/\∃pk g Ri,aq mm [pk,g,m]/\Ko pk (.slice ak R.length ck) Ri/\dC (gY [g,m]) Ri s.L/\∀i',i'<i->∀h1 h2,pP g (Ri[i']'h1) (s.L[i']'h2)) (λi=>[(3,.c (.v (.slice ak R.length ck))),(13,.c (i64 R.length)),(14,.c (i64 i))]) (λ_=>[]) 0 ⟨by omega,pk,iI,R,bM,hpk,hK.sub (bM.Yf.2.sub),by omega⟩ ?_ ?_
 ·exact Cr
 rintro i mm⟨hi,pk,g,Ri,LK,hp,hKi,hlo⟩;obtain⟨hs,hgm⟩:=LK.Yf;have HP:=hKi.len;apply bI<;>intro h
 ·have h':=ah h
  have bH:i<R.length:=by omega
  have DP:i<Ri.length:=by omega
  obtain⟨bl,ol,c2,hh,hg⟩:=hp.el.ea.real DP;injection hh with eK _ fN;subst eK;have hg:=hg i DP;have hx:=hKi.je i DP (by omega);have hEx:=hE _ (aO (show i<s.L.length by omega));have oY:=λx u hj hx=>dW.setCell (u:=u) (x:=x) hp DP (j:=9) hj hx;have hid:s.L.set i s.L[i]=s.L:=vG _
  have U4:∀(g2:aD) (r:Rk),cL g g2->pP g2 r s.L[i]->∀i',i'<i+1->∀h1 h2,pP g2 ((Ri.set i r)[i']'h1) (s.L[i']'h2):=λg2 r h3 h4 i' h5 h1 h2=>by
   by_cases e:i'=i
   ·subst e;rw[jq];exact h4
   ·rw[List.getElem_set_ne (by omega)];exact(hlo i' (by omega) _ _).sub h3
  generalize s.L[i]=x at*;generalize hr:Ri[i]=r at*;obtain⟨xk,xu,xE⟩:=x;obtain⟨rk,ru,ra,rn,rc⟩:=r;obtain⟨h1,h2,h3,h4⟩:=hx;have zu:=pP.len ⟨h1,h2,h3,h4⟩;simp only at h1 h2 h3 h4 zu hEx;subst h1 h2 zu
  repeat refine xS ?_
  have hc9:gR mm bl (ol+i*10+9)=some (.slice ra xE.length rc):=by
   obtain⟨arr,t,fr,q1,q2⟩:=hg.sub (hs.sub (a:=pk));exact aF q1 (q2 9 _ (by simp[fj,n8]))
  refine xL (hc9) ?_;refine aP (l7 (E:=xE) (h4.sub (hs.sub (a:=gY [g,m]))) (by omega)) ?_;rintro _ m2⟨v2,p2,rfl,bZ,lE⟩;have bZ:aq m2 [p2,pk,g,m]:=aq.jN (a:=[p2]) bZ LK;obtain⟨a2,c2,rfl⟩:=lE.el.shape;obtain⟨arr,q1,q2,q3⟩:=oY (rk,ru,(a2,xE.length,c2)) (.slice a2 xE.length c2) (by omega) (by simp[fj,n8]);obtain⟨g2,ha,hb,dy⟩:=aq.sK (bZ.ir [0,2,1,3]);have eP:aq m2 [pk,g2,m]:=dy.ir [1,0,2]
  repeat refine xS ?_
  have hmb:m2 bl=some (.cells arr 81):=eP.sub (a:=pk) (by simp) _ _ q1;refine⟨_,_,_,hmb,⟨by simp only[bK,aA];exact q2,by simp⟩,?_⟩;simp only[bK,aA];have eD:=eP.set q1 (.cells (arr.setIfInBounds (ol+i*10+9) (.slice a2 xE.length c2)) 81);have Re:=eD.Yf.2
  have auS:cL (gY [g,m]) (gY [g2,m]):=λx o hx=>by
   obtain⟨a,ha',AH⟩:=eQ hx;rcases aU.1 ha' with rfl|ha'
   ·exact Re.sub (a:=g2) (by simp) _ _ (hb _ _ AH)
   ·rw[aL.1 ha']at AH
    exact Re.sub (a:=m) (by simp) _ _ AH
  refine⟨i+1,⟨by omega,_,_,_,eD,q3,?_,U4 g2 _ hb ⟨rfl,rfl,h3,lE.ea.sub ha⟩⟩,by omega,?_⟩
  ·have:=(hKi.sub auS).set (i:=i) (r:=(rk,ru,(a2,xE.length,c2))) (x:=(rk,ru,xE)) ⟨rfl,rfl,h3,lE.ea.sub (ha.trans (Re.sub))⟩
   rw[hid]at this;exact this
  ·exact Cr
 ·have h':=aj h
  obtain rfl:i=R.length:=by omega
  obtain⟨g2,ha,hb,dy⟩:=aq.sK LK;exact⟨_,g2,rfl,dy,⟨Ri,hp.ea.sub ha,(dC.of HP λi' h1 h2=>hlo i' (by omega) h1 h2).sub hb⟩⟩
theorem aiJ.toQ{m':aD}{bs bf nb ns:Nat}{q:Int}{A:List Af}{s:jf}(h:aiJ m' m bs bf q nb ns A s):oJ m' m bs bf q nb ns A s:=by
 obtain⟨p,pf,h1,h2,h3⟩:=h.ex;obtain⟨bl,lv,sv,ps,g,h4,h5,h6⟩:=h2;have h7:aq m' [blk1 bs (cP bf s.g lv bl sv),blk1 bl (eU bf (gK s.g) s.R.length s.cY),ps,g,pf,m]:=aq.tQ h1 h4;obtain⟨q1,ha,hb,h8⟩:=aq.sK (h7.ir [3,5,0,1,2,4]);exact sD (h8.ir [1,2,3,4,0]) hb (h5.sub ha) h6 h3
open Go.Proofs Go.Shelf Go.Sort Go.Lib
def akq:Go.Shelf.Ren:=⟨rF [(6,322),(14,364),(15,188),(20,409),(21,410),(22,411),(23,412),(24,413),(25,414),(26,415),(27,416),(28,279),(29,280),(46,447),(47,339),(48,340),(49,448),(50,449),(57,473)],rF [(0,0),(3,3),(4,4),(5,5),(9,9),(22,36),(24,81),(25,419),(39,193),(45,367),(46,368),(50,348),(53,119),(55,31),(66,430),(70,434),(76,475),(77,284)],λn=>n⟩
theorem ac2:SlLaysF0.n6 tP akq:=by repeat' first|kernel_rfl|exact λ_=>rfl|(apply brs<;>kernel_rfl)|decide|constructor
theorem Cn:wP tP 322:=ac2.f6.enters rfl
open Go.Proofs Go.Shelf Go.Sort Go.Lib
theorem Xz:∀{a b:List UInt8},compareBytes a b<0↔a<b
 |[],[]=>by simp[compareBytes]
 |[],_::_=>by simp[compareBytes]
 |_::_,[]=>by simp[compareBytes]
 |a::l,b::k=>by
  rw[compareBytes,List.cons_lt_cons_iff];by_cases h1:a<b
  ·simp[h1]
  ·rw[if_neg h1]
   by_cases h2:b<a
   ·rw[aC h2]
    have:¬a=b:=λe=>by subst e;exact h1 h2
    simp[h1,this]
   ·rw[if_neg h2]
    have:a=b:=UInt8.le_antisymm (UInt8.not_lt.1 h2) (UInt8.not_lt.1 h1);simp[this,Xz (a:=l) (b:=k)]
def Fk(a b:ByteArray):Int:=compareBytes a.data.toList b.data.toList
theorem Xy(a b:ByteArray):decide (Fk a b<0)=eZ a b:=by
 rw[BP];exact fF.2 Xz
theorem Ox{s p:ByteArray}:eN tP 324 [.v (.string s),.v (.string p)] m [i64 (Fk s p)]:=by
 refine⟨rQ Tryz.func324 (by kernel_rfl) (by kernel_rfl),λ_ W hW=>?_⟩;exact(Tryz.strings_Compare s p W).mono λe W' ⟨h2,h3⟩=>⟨[i64 (Fk s p)],m,h2,by intro x hx;simp at hx;rcases hx with rfl;rfl,⟨rfl,rfl⟩,Bu hW h3⟩
abbrev G4(r:Rk):LB:=[.one (.string r.1),.bG .u64 8 (n8 r.2.1),.one (.slice r.2.2.1 r.2.2.2.1 r.2.2.2.2)]
theorem BN{r q:Rk}:eN tP 323 [.a (G4 r),.a (G4 q)] m [i64 (Fk r.1 q.1)]:=by
 refine ub Tryz.func323 ?_;refine bt (Ox) ?_;exact rR
theorem ake{α:Type}(key:α->ByteArray):SWO (ltOf λx y=>Fk (key x) (key y)):=by
 have e:∀x y,ltOf (λx y=>Fk (key x) (key y)) x y=eZ (key x) (key y):=λx y=>Xy _ _;refine⟨λx=>?_,λx y z h1 h2=>?_,λx y z h1 h2=>?_⟩
 ·rw[e];exact oa _
 ·rw[e]at*;exact qh h1 h2
 ·rw[e]at*
  cases h:eZ (key x) (key z)with
  |false=>rfl
  |true=>
   exfalso
   cases h3:eZ (key y) (key z)with
   |true=>rw[h2]at h3;cases h3
   |false=>
    cases h4:eZ (key z) (key y)with
    |false=>
     have:=qi h3 h4;rw[<-this,h1]at h;cases h
    |true=>
     have:=qh h h4;rw[h1]at this;cases this
theorem Xr{α β:Type}{enc:α->List Value}{k:Nat}(h:fp enc k)(f:β->α):fp (λx=>enc (f x)) k:=⟨λx=>h.len (f x),λx=>h.one (f x),h.pos⟩
theorem ac6{E:List Rk}(hd:E.Pairwise λx y=>x.1≠y.1){x y:Rk}(hx:x∈E)(hy:y∈E)(h:x.1=y.1):x=y:=by
 obtain⟨i,hi,rfl⟩:=dc hx;obtain⟨j,hj,rfl⟩:=dc hy;rcases Nat.lt_trichotomy i j with h1|h1|h1
 ·exact absurd h (dz.1 hd i j hi hj h1)
 ·grind
 ·exact absurd h.symm (dz.1 hd j i hj hi h1)
theorem MH{p:aD}{l:List aD}{i:Nat}(hS:cK m)(hs:aq m l)(hi:l[i]?=some p) {v:Value}{E:List Rk} (hv:Ko p v E) (hd:E.Pairwise λx y=>x.1≠y.1) (hl:E.length<=1000000000):
  bi tP 322 [.v v,Aj 323] m λr m'=>∃p' E',r=[]/\aq m' (l.set i p')/\Ko p' v E'/\E'.Perm E/\E'.Pairwise λx y=>eZ x.1 y.1=true:=by
 cases E with
 |nil=>
  have h0:=xO (α:=PUnit) (ρ:=akq) Cn ac2 (k:=10) Tryz.isAgg81 Tryz.sizeOf81 (Xr dW λ_=>(ByteArray.empty,[],(none,0,0))) (cf:=λ_ _=>Fk ByteArray.empty ByteArray.empty) (ake λ_=>ByteArray.empty) (λ_ _ _ _=>rfl) (parts:=λ_=>G4 (ByteArray.empty,[],(none,0,0))) (λ_=>rfl) (λ_=>⟨rfl,rfl,rfl,trivial⟩) (g:=323) (λ_ _=>BN.mono λr m' h=>h.1) hS hs hi (E:=[]) hv (by simp);exact h0.mono λr m' ⟨p',h1,h2,h3⟩=>⟨p',[],h1,h2,by simpa [Ko]using h3,mP _,List.Pairwise.nil⟩
 |cons x0 E0=>
  generalize hE:x0::E0=E at*;have hx0:x0∈E:=by rw[<-hE];simp
  haveI:Inhabited {r:Rk//r∈E}:=⟨⟨x0,hx0⟩⟩
  have efl:∀S:List {r:Rk//r∈E},S.flatMap (λx=>fj x.1)=(S.map Subtype.val).flatMap fj:=λS=>by rw[List.flatMap_map]
  have e1:E.attach.flatMap (λx=>fj x.1)=E.flatMap fj:=by rw[efl,List.attach_map_subtype_val]
  have elt:∀x y:{r:Rk//r∈E},ltOf (λx y:{r:Rk//r∈E}=>Fk x.1.1 y.1.1) x y=eZ x.1.1 y.1.1:=λx y=>Xy _ _
  have h0:=xO (α:={r:Rk//r∈E}) (ρ:=akq) Cn ac2 (k:=10) Tryz.isAgg81 Tryz.sizeOf81 (Xr dW λx:{r:Rk//r∈E}=>x.1) (cf:=λx y:{r:Rk//r∈E}=>Fk x.1.1 y.1.1) (ake λx:{r:Rk//r∈E}=>x.1.1) (λx y h1 h2=>by
   rw[elt]at h1 h2
   exact Subtype.ext (ac6 hd x.2 y.2 (qi h1 h2))) (parts:=λx:{r:Rk//r∈E}=>G4 x.1) (λ_=>rfl) (λ_=>⟨rfl,rfl,rfl,trivial⟩) (g:=323) (λ_ _=>BN.mono λr m' h=>h.1) hS hs hi (E:=E.attach) (e:=81) (v:=v) (by rw[e1];exact hv) (by rw[List.length_attach];exact hl)
  refine h0.mono λr m' ⟨p',h1,h2,h3⟩=>?_;have hp:=qR E.attach (λx y=>!ltOf (λx y:{r:Rk//r∈E}=>Fk x.1.1 y.1.1) y x);have hsw:=ake (α:={r:Rk//r∈E}) λx=>x.1.1
  have hpw:=ta (le:=λx y=>!ltOf (λx y:{r:Rk//r∈E}=>Fk x.1.1 y.1.1) y x) (λa b c h1 h2=>by
   simp only[dH]at*;exact hsw.ntrans c b a h2 h1) (λa b=>by
   simp only[elt,eM,dH]
   cases h:eZ b.1.1 a.1.1 with
   |false=>exact .inl rfl
   |true=>exact .inr (tL h)) E.attach
  generalize E.attach.mergeSort (λx y=>!ltOf (λx y:{r:Rk//r∈E}=>Fk x.1.1 y.1.1) y x)=S at h3 hp hpw;rw[efl]at h3
  have lE:(S.map Subtype.val).Perm E:=by
   have:=hp.map Subtype.val;rwa [List.attach_map_subtype_val]at this
  refine⟨p',S.map Subtype.val,h1,h2,h3,lE,?_⟩;have hd2:(S.map Subtype.val).Pairwise λx y=>x.1≠y.1:=(uJ (λh=>Ne.symm h) lE).2 hd;rw[cG]at hd2⊢;refine(hpw.and hd2).imp λ{a b} h=>?_;obtain⟨h5,h6⟩:=h;rw[elt]at h5;have h5':eZ b.1.1 a.1.1=false:=by simpa using h5
  cases h7:eZ a.1.1 b.1.1 with
  |true=>rfl
  |false=>exact absurd (qi h7 h5') h6
end Go.E.Y
namespace Go.E
section
variable {α:Type}{bn:α->Nat}
theorem akf:∀{fK F:List α},(fK.Pairwise λa b=>bn a≠bn b)->(∀f∈fK,f∈F)->∃R,(fK++R).Perm F
 |[],F,_,_=>⟨F,mP _⟩
 |x::vs,F,hv,hF=>by
  obtain⟨h1,h2⟩:=bh.1 hv;obtain⟨A,B,rfl⟩:=List.append_of_mem (hF x (by simp))
  obtain⟨R,hR⟩:=akf (fK:=vs) (F:=A++B) h2 λf hf=>by
   have:=hF f (by simp[hf]);rcases aR.1 this with h|h
   ·exact lJ _ h
   ·rcases aU.1 h with rfl|h
    ·exact absurd rfl (h1 f hf)
    ·exact jp _ h
  refine⟨R,?_⟩;exact(List.Perm.cons x hR).trans List.perm_middle.symm
theorem aw1{fK F:List α}(hv:fK.Pairwise λa b=>bn a≠bn b)(hF:∀f∈fK,f∈F)(hb:F.Pairwise λa b=>bn a≠bn b)(cM:∀f∈F,∃g∈fK,bn g=bn f):fK.Perm F:=by
 obtain⟨R,hR⟩:=akf hv hF
 cases R with
 |nil=>simpa using hR
 |cons r R=>
  exfalso;have hp:=(uJ (λh=>Ne.symm h) hR).2 hb;have hr:r∈F:=hR.subset (by simp);obtain⟨g,hg,e⟩:=cM r hr;exact(cm.1 hp).2.2 g hg r (by simp) e
theorem atj{fK F:List α}(hv:fK.Pairwise λa b=>bn a≠bn b)(hF:∀f∈fK,f∈F):fK.length<=F.length:=by
 obtain⟨R,hR⟩:=akf hv hF;rw[<-hR.length_eq,ax];omega
structure SX(bn:α->Nat)(F fK:List α):Prop where
 born:fK.Pairwise λa b=>bn a≠bn b
 sub:∀f∈fK,f∈F
theorem SX.start(F:List α):SX bn F []:=⟨by simp,by simp⟩
theorem SX.step{F fK:List α}{f:α}(h:SX bn F fK)(hf:f∈F)(hn:∀g∈fK,bn g≠bn f):SX bn F (fK++[f]):=by
 refine⟨cm.2 ⟨h.born,by simp,λa ha b hb=>?_⟩,λg hg=>?_⟩
 ·rw[aL.1 hb];exact hn a ha
 ·rcases aR.1 hg with hg|hg
  ·exact h.sub g hg
  ·rw[aL.1 hg];exact hf
variable {κ:Type}{kg:α->lq κ}
theorem acW{F fK:List α}{e:lq κ}(he:e∈iW (fK.map λx=>(kg x).b) (F.map kg)):∃f∈F,e=kg f/\∀g∈fK,(kg g).b≠(kg f).b:=by
 obtain⟨h1,h2⟩:=cH.1 he;obtain⟨f,hf,rfl⟩:=aV.1 h1;refine⟨f,hf,rfl,λg hg e=>?_⟩;simp only[dH,jS,gz]at h2;exact h2 (aV.2 ⟨g,hg,e⟩)
theorem Zj{F fK:List α}(h:SX (λx=>(kg x).b) F fK)(hb:F.Pairwise λa b=>(kg a).b≠(kg b).b)(he:iW (fK.map λx=>(kg x).b) (F.map kg)=[]):fK.Perm F:=by
 refine aw1 h.born h.sub hb λf hf=>?_;have:=gP.1 he (kg f) (aV.2 ⟨f,hf,rfl⟩);simp only[dH,jS,gz,lM]at this;obtain⟨g,hg,e⟩:=aV.1 this;exact⟨g,hg,e⟩
end
end Go.E
namespace Go.E.Y
open Go.Proofs
def Nr(x:Kd):List Kd->List Kd
 |[]=>[x]
 |y::M=>if y.1=x.1 then x::M else y::Nr x M
theorem Qr{x:Kd}:∀{M:List Kd},(∀y∈M,y.1≠x.1)->Nr x M=M++[x]
 |[],_=>rfl
 |y::M,h=>by
  rw[Nr,if_neg (h y (by simp)),Qr λz hz=>h z (by simp[hz])];rfl
theorem Hl{x:Kd}:∀{M:List Kd},(M.map (·.1)).Nodup->(∃y∈M,y.1=x.1)->Nr x M=M.map λy=>if y.1=x.1 then(x.1,x.2)else y
 |[],_,h=>by obtain⟨y,hy,_⟩:=h;cases hy
 |y::M,hn,h=>by
  rw[aZ,nU]at hn;rw[Nr,aZ];by_cases e:y.1=x.1
  ·rw[aC e,aC e]
   congr 1
   refine((eu λz hz=>?_).trans (lL M)).symm;rw[if_neg λe2=>hn.1 (aV.2 ⟨z,hz,e2.trans e.symm⟩)];rfl
  ·rw[if_neg e,if_neg e]
   congr 1
   refine Hl hn.2 ?_;obtain⟨z,hz,e2⟩:=h;rcases aU.1 hz with rfl|hz
   ·exact absurd e2 e
   ·exact⟨z,hz,e2⟩
theorem LL(k:ByteArray)(c:Ct):∀L:List Kd,(sG k c L).Perm ((k,c)::L)
 |[]=>mP _
 |x::L=>by
  rw[sG];split
  ·exact mP _
  ·exact((LL k c L).cons x).trans (List.Perm.swap _ _ _)
theorem aat{L:List Kd}(h:s6 L):(L.map (·.1)).Nodup:=by
 rw[List.Nodup,cG];exact h.imp λh=>PI h
variable{M:List Kd}
theorem Lm{O:List Kd}(hp:M.Perm O)(ho:s6 O)(x:Kd):(Nr x M).Perm (iz O x.1 x.2):=by
 have hn:(M.map (·.1)).Nodup:=(hp.map (·.1)).nodup_iff.2 (aat ho);unfold iz;by_cases h:(O.any λy=>decide (y.1=x.1))=true
 ·rw[aC h]
  obtain⟨y,hy,e⟩:=dh.1 h;rw[Hl hn ⟨y,hp.mem_iff.2 hy,ah e⟩]
  grind
 ·rw[if_neg h,Qr λy hy e=>h (dh.2 ⟨y,hp.mem_iff.1 hy,bB e⟩)]
  exact(dY.trans ((hp.cons x))).trans (LL x.1 x.2 O).symm
theorem ae8{L:List Kd}(hL:s6 L)(hM:s6 M)(hp:L.Perm M):L=M:=(FY hL hM λ_ h=>hp.mem_iff.1 h).eq_of_length hp.length_eq
structure jz where
 r:Rk
 (b:Nat)
abbrev cvK(r:Rk):CV:=.a [.bG .u64 8 (n8 r.2.1),.one (.slice r.2.2.1 r.2.2.2.1 r.2.2.2.2)]
def jz.kg(d:jz):lq ByteArray:=⟨d.r.1,cvK d.r,d.b⟩
abbrev kO(D:List jz)(clock:Nat):Obj:=nk Value.string (D.map jz.kg) clock
def vP(r:Rk)(c:Nat):List jz->List jz
 |[]=>[⟨r,c⟩]
 |d::D=>if r.1=d.r.1 then⟨r,d.b⟩::D else d::vP r c D
theorem Gy(r:Rk)(c:Nat):∀D:List jz,uu r.1 (cvK r) c (D.map jz.kg)=(vP r c D).map jz.kg
 |[]=>rfl
 |d::D=>by
  rw[aZ,uu,vP];by_cases e:r.1=d.r.1
  ·rw[aC e,aC (show r.1=d.kg.k from e)];rfl
  ·rw[if_neg e,if_neg (show ¬r.1=d.kg.k from e),aZ,Gy r c D]
theorem ML(r:Rk)(c:Nat):∀D:List jz,(vP r c D).map (·.b)=if (mD r.1 (D.map jz.kg)).isSome then D.map (·.b)else D.map (·.b)++[c]
 |[]=>rfl
 |d::D=>by
  have ih:=ML r c D;rw[vP,aZ,mD,iZ];by_cases e:r.1=d.r.1
  ·rw[aC e]
   simp[jz.kg,e]
  ·rw[if_neg e,aZ,ih,mD]
   have:decide (r.1=(jz.kg d).k)=false:=aY e;rw[this]
   split<;>simp_all
theorem abF(r:Rk)(c:Nat):∀D:List jz,(vP r c D).map (·.r.1)=if (mD r.1 (D.map jz.kg)).isSome then D.map (·.r.1)else D.map (·.r.1)++[r.1]
 |[]=>rfl
 |d::D=>by
  have ih:=abF r c D;rw[vP,aZ,mD,iZ];by_cases e:r.1=d.r.1
  ·rw[aC e]
   simp[jz.kg,e]
  ·rw[if_neg e,aZ,ih,mD]
   have:decide (r.1=(jz.kg d).k)=false:=aY e;rw[this]
   split<;>simp_all
variable{k:ByteArray}{D:List jz}
theorem Vq(h:(mD k (D.map jz.kg)).isSome=false):k∉D.map (·.r.1):=by
 intro hk;obtain⟨d,hd,e⟩:=aV.1 hk;rw[mD,Option.isSome_map]at h;have h2:=kT.1 (Option.isSome_eq_false_iff.1 h |> Option.isNone_iff_eq_none.1) (jz.kg d) (aV.2 ⟨d,hd,rfl⟩);exact h2 (bB (show k=d.r.1 from e.symm))
structure By(g:aD)(D:List jz)(clock:Nat)(M:List Kd):Prop where
 ks:dC g (D.map (·.r)) M
 born:∀b∈D.map (·.b),b<clock
 OE:(D.map (·.b)).Nodup
 UL:(D.map (·.r.1)).Nodup
theorem By.nil(g:aD):By g [] 0 []:=⟨dC.nil g,by simp,by simp,by simp⟩
variable{c:Nat}
theorem By.sub{g g':aD}(h:By g D c M)(hs:cL g g'):By g' D c M:=⟨h.ks.sub hs,h.born,h.OE,h.UL⟩
theorem dC.vP{g:aD}{r:Rk}{x:Kd}{c:Nat}(hx:pP g r x):∀{D:List jz}{M:List Kd},dC g (D.map (·.r)) M->dC g ((vP r c D).map (·.r)) (Nr x M)
 |[],[],_=>dC.one hx
 |[],_::_,h=>by cases h.len
 |_::_,[],h=>by cases h.len
 |d::D,y::M,h=>by
  obtain⟨h1,h2⟩:=dC.tail h;have ih:=dC.vP (c:=c) hx h2;rw[Go.E.Y.vP,Nr];by_cases e:r.1=d.r.1
  ·rw[aC e,aC (by rw[<-h1.k,<-hx.k];exact e.symm)]
   exact(dC.one hx).append h2
  ·rw[if_neg e,if_neg (by rw[<-h1.k,<-hx.k];exact λh=>e h.symm)]
   exact(dC.one h1).append ih
variable{x:Kd}
theorem By.set{g:aD}(h:By g D c M){r:Rk}(hx:pP g r x):By g (vP r c D) (kS r.1 c (D.map jz.kg)) (Nr x M):=by
 have hb:=ML r c D;have hk:=abF r c D;refine⟨dC.vP hx h.ks,?_,?_,?_⟩
 ·rw[hb,kS]
  split
  ·exact h.born
  ·intro b hb
   rcases aR.1 hb with hb|hb
   ·have:=h.born b hb;omega
   grind
 ·rw[hb]
  split
  ·exact h.OE
  ·exact uH.2 ⟨h.OE,by simp,λa ha b hb=>by have:=h.born a ha;rw[aL.1 hb];omega⟩
 ·rw[hk]
  split
  ·exact h.UL
  ·rename_i hn
   exact uH.2 ⟨h.UL,by simp,λa ha b hb e=>Vq (by simpa using hn) (by rw[aL.1 hb]at e;exact e▸ha)⟩
theorem aoX{P:jz->Prop}(h:∀f∈D,P f){Q:lq ByteArray->Prop}(hq:∀f,P f->Q f.kg):∀e∈D.map jz.kg,Q e:=λe he=>by
 obtain⟨f,hf,rfl⟩:=aV.1 he;exact hq f (h f hf)
variable{m:aD}
theorem dC.fm{R R':List Rk}(h:R.Perm R'):∀{M:List Kd},dC m R M->∃M',M.Perm M'/\dC m R' M':=by
 induction h with
 |nil=>intro M h;exact⟨M,mP _,h⟩
 |cons r _ ih=>
  intro M h
  cases M with
  |nil=>cases h.len
  |cons x M=>
   obtain⟨h1,h2⟩:=h.tail;obtain⟨M',h3,h4⟩:=ih h2;exact⟨x::M',h3.cons x,(dC.one h1).append h4⟩
 |swap r q R=>
  intro M h
  match M,h with
  |[],h=>cases h.len
  |[_],h=>cases h.len
  |x::y::M,h=>
   obtain⟨h1,h2⟩:=h.tail;obtain⟨h3,h4⟩:=h2.tail;exact⟨y::x::M,List.Perm.swap _ _ _,(dC.one h3).append ((dC.one h1).append h4)⟩
 |trans _ _ ih1 ih2=>
  intro M h;obtain⟨M1,h1,h2⟩:=ih1 h;obtain⟨M2,h3,h4⟩:=ih2 h2;exact⟨M2,h1.trans h3,h4⟩
theorem dC.asc{R:List Rk}(h:dC m R M)(hR:R.Pairwise λx y=>eZ x.1 y.1=true):s6 M:=by
 have e:=h.UL;have h1:(R.map (·.1)).Pairwise λx y=>eZ x y=true:=cG.2 hR;rw[e]at h1;exact cG.1 h1
theorem Eh{bm clock:Nat}{O:List Kd}(hS:cK m)(hb:m bm=some (kO D clock))(hM:By m D clock M)(hO:s6 O)(hp:M.Perm O)(hl:D.length<=1000000):
  bi tP 244 [.v (.map (some bm))] m λr m'=>∃v p R,r=[.v v]/\aq m' [p,m]/\Ko p v R/\dC m R O:=by
 have adV:D.Pairwise λa b=>(jz.kg a).b≠(jz.kg b).b:=cG.1 hM.OE;refine ub Tryz.func244 ?_;refine .mk _ (x3 (P:=tP) Tryz.underlying346 hb) ?_;rintro _ _⟨it,ZC,rfl,rfl⟩;refine .mk (ι:=List jz×Value) (λi=>D.length-i.1.length) (λ⟨fK,v⟩ m'=>SX (λx=>(jz.kg x).b) D fK/\∃q,aq m' [q,blk1 it (jx bm clock (fK.map λx=>(jz.kg x).b)),m]/\Ko q v (fK.map (·.r))) (λ⟨fK,v⟩=>[(3,.c (.v v)),(7,.c (cx it))]) (λ_=>[]) ([],.slice none 0 0) ⟨SX.start D,iI,((aq.one m).new ZC _).cA,Ko.nil _⟩ ?_ ?_
 ·exact Cr
 rintro⟨fK,v⟩ m' ⟨hv,q,bZ,UX⟩;have EO:m' bm=some (kO D clock):=bZ.sub (a:=m) (by simp) _ _ hb;have alv:m' it=some (jx bm clock (fK.map λx=>(jz.kg x).b)):=bZ.sub (a:=blk1 it (jx bm clock (fK.map λx=>(jz.kg x).b))) (by simp) _ _ (aG ..);refine .mk _ (A8 (P:=tP) alv EO (aoX (P:=λf=>f.b<clock) (λf hf=>hM.born _ (aV.2 ⟨f,hf,rfl⟩)) λf hf=>hf) (aoX (P:=λ_=>True) (λ_ _=>trivial) λf _=>⟨rfl,rfl,trivial⟩) (λ_=>rfl)) ?_;rintro _ m'' (⟨he,rfl,rfl⟩|⟨e,he,rfl,rfl⟩)
 ·refine xN ?_
  have hq:=Zj hv adV he;have hr:(fK.map (·.r)).Perm (D.map (·.r)):=hq.map _;have hd:(fK.map (·.r)).Pairwise λx y=>x.1≠y.1:=(uJ (λh=>Ne.symm h) hr).2 (by have:=cG.1 hM.UL;exact cG.2 this);have hvl:(fK.map (·.r)).length<=1000000:=by rw[hr.length_eq,aH];exact hl
  refine aP (MH (i:=0) (hS.sub (bZ.sub)) bZ rfl UX hd (by omega)) ?_;rintro _ m2⟨p',E',rfl,dy,hE,hpe,hpw⟩;obtain⟨M',h3,h4⟩:=dC.fm (hpe.trans hr).symm hM.ks;have e:M'=O:=ae8 (h4.asc hpw) hO (h3.symm.trans hp);subst e;exact⟨v,p',E',rfl,dy.ir [0,2],hE,h4⟩
 ·obtain⟨f,hf,rfl,hn⟩:=acW he
  have lD:=hv.step hf hn;have hlen:=atj lD.born lD.sub;rw[ax,eV]at hlen;have bM:=bZ.gu (i:=1) rfl (aG ..) (jx bm clock ((fK.map λx=>(jz.kg x).b)++[f.kg.b]));rw[cJ]at bM;have bM:aq _ [q,blk1 it (jx bm clock ((fK.map λx=>(jz.kg x).b)++[f.kg.b])),m]:=bM;have EO:(m'.set it (jx bm clock ((fK.map λx=>(jz.kg x).b)++[f.kg.b]))) bm=some (kO D clock):=bM.sub (a:=m) (by simp) _ _ hb;refine xY ?_;refine .mk _ (yL (P:=tP) (aD.bg ..) EO (aV.2 ⟨f,hf,rfl⟩) (cG.2 adV) ⟨rfl,rfl,trivial⟩ rfl) ?_;rintro _ _⟨rfl,rfl⟩;refine .mk _ (OC (e:=f.r)) ?_;rintro _ _⟨b2,oM,rfl,rfl⟩;refine .mk _ (aca (i:=0) bM rfl oM UX (by rw[aH];omega)) ?_;rintro _ m'⟨v',p',rfl,qW,pY⟩;refine⟨(fK++[f],v'),⟨lD,p',by rw[bD];exact qW,by rw[bD];exact pY⟩,by simp;omega,?_⟩;exact Cr
def KC(was:Ct)(bQ:Ct×Int):Prop:=bQ.2=0/\¬was=bQ.1
instance (was:Ct) (bQ:Ct×Int):Decidable (KC was bQ):=inferInstanceAs (Decidable (_/\_))
def ou(s:List Kd×List Kd)(x:Kd):List Kd×List Kd:=
 if KC (gh s.1 x.1) (nh (gh s.1 x.1) x.2)then(iz s.1 x.1 (nh (gh s.1 x.1) x.2).1,iz s.2 x.1 (nh (gh s.1 x.1) x.2).1)else s
def gn(L C:List Kd):List Kd×List Kd:=C.foldl ou (L,[])
def jC(L C:List Kd):Int:=if cX L=false\/cX C=false then 3 else if cX (gn L C).1=false then 3 else 0
structure MS(s:List Kd×List Kd)(n i:Nat):Prop where
 a:∀x∈s.1,jg x
 (l:s.1.length<=n+i)
 (t:s6 s.2)
variable{n i:Nat}
theorem MS.step{s:List Kd×List Kd}(h:MS s n i)(hx:jg x):MS (ou s x) n (i+1):=by
 unfold ou;split
 ·rename_i ht
  have h1:=xH (k:=x.1) (x:=gh s.1 x.1) (y:=x.2) (qo h.a x.1) hx ht.1;refine⟨λy hy=>?_,?_,Kr h.t⟩
  ·rcases uM hy with hy|rfl
   ·exact h.a y hy
   ·exact h1
  ·have:=C4 s.1 x.1 (nh (gh s.1 x.1) x.2).1
   have:=h.l
   grind
 ·exact⟨h.a,by have:=h.l;omega,h.t⟩
section
variable {m:aD}{v w:Value}{L C:List Kd}
theorem Hm(hS:cK m)(hv:Bz m v L)(hC:lu m w C)(hCa:∀x∈C,jg x)(hCl:C.length<=10000):
  bi tP 164 [.v v,.v w] m λr m'=>∃v1 v2,r=[.v v1,.v v2,i64 (jC L C)]/\cL m m'/\(jC L C=0->lu m' v1 (gn L C).1/\lu m' v2 (gn L C).2):=by
 have hE:jC L C=if cX L=false\/cX C=false then 3 else if cX (gn L C).1=false then 3 else 0:=rfl
 have hF:gn L C=C.foldl ou (L,[]):=rfl;generalize jC L C=er at*
 have uK:er=3->∀mm,cL m mm->∃v1 v2,[.v (.slice none 0 0),.v (.slice none 0 0),i64 3]=[CV.v v1,CV.v v2,i64 er]/\cL m mm/\(er=0->lu mm v1 (gn L C).1/\lu mm v2 (gn L C).2):=λh mm hs=>by
  subst h;exact⟨_,_,rfl,hs,λh=>by cases h⟩
 have hl:=hv.l;refine ub Tryz.func164 ?_;refine aP (iC hS hv.v hv.a (by omega)) ?_;rintro _ m1⟨rfl,bM⟩;by_cases h1:cX L=true;rotate_left
 ·have h1:cX L=false:=by simpa using h1
  rw[h1];refine xY ?_;exact uK (by rw[hE,aC (.inl h1)]) m1 bM
 rw[h1];refine xN ?_;refine aP (iC (hS.sub bM) (hC.sub bM) hCa (by omega)) ?_;rintro _ m2⟨rfl,bZ⟩;have vD:=bM.trans bZ;by_cases h2:cX C=true;rotate_left
 ·have h2:cX C=false:=by simpa using h2
  rw[h2];refine xY ?_;exact uK (by rw[hE,aC (.inr h2)]) m2 vD
 rw[h2];refine xN ?_;conv=>whnf
 rw[if_neg (by simp[h1,h2])]at hE;have hLn:=aaV h1;have hCn:=aaV h2;obtain⟨R,hR,hK⟩:=hv.v.sub vD;refine aP (nO hR (by have:=hK.len;omega)) ?_;rintro _ m3⟨vo,po,rfl,dy,hpo⟩;refine .mk _ (wh (enc:=Value.string)) ?_;rintro _ _⟨bm,EO,rfl,rfl⟩;obtain⟨RC,hRC,hKC⟩:=hC;obtain⟨aw,cw,rfl⟩:=hRC.shape;have hlen:=hKC.len;obtain⟨g0,q1,q2,eP⟩:=aq.sK dy;have eD:aq (m3.set bm (kO [] 0)) [g0,blk1 bm (kO [] 0),iI]:=(eP.cA.new EO (kO [] 0)).ir [2,0,1];have wA:lu g0 vo L:=⟨R,(hpo.el.sub q1).ea,hK.sub q2⟩;obtain⟨av,cv,rfl⟩:=hpo.el.shape;refine .mk (ι:=Nat×Value) (λi=>RC.length-i.1) (λ⟨i,y⟩ mm=>i<=RC.length/\∃g gt D clock M s,aq mm [g,blk1 bm (kO D clock),gt]/\cL m g/\lu g y s.1/\By gt D clock M/\M.Perm s.2/\D.length<=i/\MS s L.length i/\s=(C.take i).foldl ou (L,[])) (λ⟨i,y⟩=>[(7,.c (.v y)),(8,.c (.v (.map (some bm)))),(26,.c (.v (.slice aw RC.length cw))),(27,.c (i64 RC.length)),(28,.c (i64 i))]) (λ_=>[]) (0,.slice av R.length cv) ⟨by omega,g0,iI,[],0,[],(L,[]),eD,vD.trans q2,wA,By.nil _,mP _,by simp,⟨hv.a,by simp,adl⟩,rfl⟩ ?_ ?_
 ·exact Cr
 rintro⟨i,y⟩ mm ⟨hi,g,gt,D,clock,M,s,hs,hmg,hg,hM,hp,hDl,Q8,hsf⟩;have wq:cL m mm:=hmg.trans (hs.sub);apply bI<;>intro h
 ·have h':=ah h
  have bH:i<RC.length:=by omega
  obtain⟨bl,ol,c',hh,hgx⟩:=(hRC.sub wq).real bH;injection hh with eK _ fN;have js:=hgx i bH;have hx:=hKC.je i bH (by omega);have LX:=hCa _ (aO (show i<C.length by omega))
  have dI:(C.take (i+1)).foldl ou (L,[])=ou s C[i]:=by
   rw[au (by omega),iT,<-hsf];rfl
  rw[<-el8 hx]at js;have zu:=hx.len;have FO:=hx.e;have OQ:=hx.u8;generalize C[i]'(by omega)=x at*;generalize RC[i]=r at*;rw[zu]at FO;obtain⟨xk,xu,xE⟩:=x;obtain⟨rk,ru,ra,rn,rc⟩:=r;simp only at js LX FO OQ;have ml:xE.length<=1000:=LX.n;have Zy:=Q8.step LX;have hlO:=Q8.l;have ahi:=qo Q8.a xk;conv=>whnf
  simp only[eK]
  repeat refine xS ?_
  refine⟨[.one (.string xk),.bG .u64 8 xu,.one (.slice ra xE.length rc)],⟨rfl,OQ,rfl,trivial⟩,rfl,by simp only[bK,aA];exact js,?_⟩;refine aP (G3 (hg.sub (hs.sub)) (by omega)) ?_;rintro _ m4⟨a1,c1,rfl,gC,hna⟩;have iU:=hs.grow gC;have hm4:=wq.trans gC;have adH:ou s (xk,xu,xE)=if KC (gh s.1 xk) (nh (gh s.1 xk) (xu,xE))then(iz s.1 xk (nh (gh s.1 xk) (xu,xE)).1,iz s.2 xk (nh (gh s.1 xk) (xu,xE)).1)else s:=rfl
  rw[adH]at dI;have hta:=λh=>xH (k:=xk) ahi LX h;generalize gh s.1 xk=was at*;obtain⟨wu,wE⟩:=was;have hwn:wE.length<=1000:=ahi.n;refine aP (Pk (hS.sub hm4) ahi.u LX.u (hna.sub gC) (FO.sub hm4) ahi.e LX.e hwn ml) ?_;rintro _ m5⟨x2,e2,a2,c2,p2,Be,he2,rfl,k8,kV⟩;have zv:aq m5 [p2,g,blk1 bm (kO D clock),gt]:=aq.jN (a:=[p2]) k8 iU;have adK:cL m4 m5:=k8.sub (by simp)
  have ajp:¬KC (wu,wE) (nh (wu,wE) (xu,xE))->∃g gt D clock M s,aq m5 [g,blk1 bm (kO D clock),gt]/\cL m g/\lu g y s.1/\By gt D clock M/\M.Perm s.2/\D.length<=i+1/\MS s L.length (i+1)/\s=(C.take (i+1)).foldl ou (L,[]):=λht=>by
   rw[if_neg ht]at dI adH;rw[adH]at Zy;exact⟨g,gt,D,clock,M,s,zv.ir [1,2,3],hmg,hg,hM,hp,by omega,Zy,dI.symm⟩
  generalize nh (wu,wE) (xu,xE)=tw at*;obtain⟨⟨nu,nE⟩,te⟩:=tw;simp only at Be he2 hta;subst Be he2;apply bI<;>intro h;rotate_left
  ·have h0:¬e2=0:=by simpa using h
   refine⟨(i+1,y),⟨by omega,ajp λh=>h0 h.1⟩,by simp only;omega,?_⟩;conv=>whnf
   repeat (refine And.intro (by first|with_reducible rfl|(first|exact cI (LO (by omega))|exact eK.symm▸rfl)|exact cI (wi)|exact wi|rfl) ?_;conv=>whnf)
   exact xT
  have h0:e2=0:=by simpa using h
  have htn:=hta h0;have JN:nE.length<=1000:=htn.n;refine bt (vQ ((hna.sub gC).sub adK) (kV.sub (zv.sub)) (bq hwn (by decide))) ?_;by_cases B8:(wu,wE)=(nu,nE)
  ·have e:(decide (wu=nu)&&decide (wE=nE))=true:=by
    injection B8 with e1 e2;rw[e1,e2];simp
   rw[e];refine xN ?_;refine⟨(i+1,y),⟨by omega,ajp λh=>h.2 B8⟩,by simp only;omega,?_⟩;conv=>whnf
   repeat (refine And.intro (by first|with_reducible rfl|(first|exact cI (LO (by omega))|exact eK.symm▸rfl)|exact cI (wi)|exact wi|rfl) ?_;conv=>whnf)
   exact xT
  have e:(decide (wu=nu)&&decide (wE=nE))=false:=by
   cases h:(decide (wu=nu)&&decide (wE=nE))with
   |false=>rfl
   |true=>
    simp only[aB,bA]at h;exact absurd (by rw[h.1,h.2]) B8
  rw[e];refine xY ?_;have ht:KC (wu,wE) ((nu,nE),e2):=⟨h0,B8⟩;rw[aC ht]at dI adH;rw[adH]at Zy;obtain⟨q,hq,nr,oF⟩:=(zv.ir [1,0,2,3]).fb;refine aP (x4 nr hg (kV.sub (zv.sub)) htn.u.1 (by omega) (bq JN (by decide))) ?_;rintro _ m6⟨y',g',rfl,u7,js,hgs⟩;have JJ:aq m6 [g',p2,blk1 bm (kO D clock),gt]:=oF _ [g'] u7;have au6:m6 bm=some (kO D clock):=JJ.get (a:=blk1 bm (kO D clock)) (by simp) (aG ..);refine .mk _ (yr (P:=tP) Gp (k:=xk) (v:=.a [.bG .u64 8 nu,.one (.slice a2 nE.length c2)]) Tryz.underlying346 Tryz.underlying9 au6) ?_;rintro _ m7 rfl;have Rn:(CV.a [.bG .u64 8 nu,.one (.slice a2 nE.length c2)])=cvK (xk,nu,(a2,nE.length,c2)):=by rw[cvK,yn htn.u.1]
  have hmo:nk Value.string (uu xk (.a [.bG .u64 8 nu,.one (.slice a2 nE.length c2)]) clock (D.map jz.kg)) (kS xk clock (D.map jz.kg))=kO (vP (xk,nu,(a2,nE.length,c2)) clock D) (kS xk clock (D.map jz.kg)):=by
   rw[Rn,kO,<-Gy]
  have NL:=JJ.gu (i:=2) rfl (aG ..) (kO (vP (xk,nu,(a2,nE.length,c2)) clock D) (kS xk clock (D.map jz.kg)));rw[cJ]at NL;obtain⟨j,k1,k2,Zu⟩:=aq.sK (NL.ir [1,3,0,2]);have hM':=(hM.sub k2).set (r:=(xk,nu,(a2,nE.length,c2))) (x:=(xk,nu,nE)) ⟨rfl,rfl,htn.u.1,kV.sub k1⟩
  have hDn:(vP (xk,nu,(a2,nE.length,c2)) clock D).length<=D.length+1:=by
   have:=be List.length (ML (xk,nu,(a2,nE.length,c2)) clock D);rw[aH]at this;rw[this]
   split<;>simp
  refine⟨(i+1,y'),⟨by omega,g',j,_,_,_,_,?_,hmg.trans hgs,js,hM',Lm hp Q8.t (xk,nu,nE),by omega,Zy,dI.symm⟩,by simp only;omega,?_⟩
  ·rw[hmo]
   exact Zu.ir [1,2,0]
  ·conv=>whnf
   repeat (refine And.intro (by first|with_reducible rfl|(first|exact cI (LO (by omega))|exact eK.symm▸rfl)|exact cI (wi)|exact wi|rfl) ?_;conv=>whnf)
   exact xT
 have h':=aj h;obtain rfl:i=RC.length:=by omega
 rw[hlen,aJ,<-hF]at hsf;subst hsf;refine aP (iC (hS.sub wq) (hg.sub (hs.sub)) Q8.a (by have:=Q8.l;omega)) ?_;rintro _ m4⟨rfl,gC⟩;by_cases h3:cX (gn L C).1=true;rotate_left
 ·have h3:cX (gn L C).1=false:=by simpa using h3
  rw[h3];refine xY ?_;exact uK (by rw[hE,aC h3]) m4 (wq.trans gC)
 rw[h3];refine xN ?_;have iU:=hs.grow gC;refine aP (Eh (hS.sub (wq.trans gC)) (iU.get (a:=blk1 bm (kO D clock)) (by simp) (aG ..)) (hM.sub (iU.sub)) Q8.t hp (by omega)) ?_;rintro _ m5⟨v5,p5,R5,rfl,k8,hp5,hK5⟩;have adK:cL m4 m5:=k8.sub (by simp);exact⟨y,v5,by rw[hE,if_neg (by rw[h3];decide)],(wq.trans gC).trans adK,λ_=>⟨hg.sub ((iU.sub).trans adK),R5,(hp5.el.sub (k8.sub)).ea,hK5.sub adK⟩⟩
end
theorem abE(r:Rk)(c:Nat)(D:List jz):(vP r c D).length<=D.length+1:=by
 have:=be List.length (ML r c D);rw[aH]at this;rw[this]
 split<;>simp
section
variable {m:aD}{v:Value}{L:List Kd}{part:Int}
theorem NA{w:Value}{l:List Int}(hS:cK m)(h_:Bz m v L)(hL:L.length<=2000)(hw:Ia m w l)(hl:l.length<=16):bi tP 240 [.v v,i64 part,.v w] m λr m'=>∃v',r=[.v v']/\cL m m'/\lu m' v' (pI L part l):=by
 refine ub Tryz.func240 ?_;refine .mk _ (wh (enc:=Value.string)) ?_;rintro _ _⟨bm,EO,rfl,rfl⟩;have B8:=aD.bT (kO [] 0) EO;refine aP (EA (hw.sub B8) (by omega)) ?_;rintro _ m1⟨vl,q0,rfl,LK,NP⟩;have bM:aq m1 [q0,blk1 bm (kO [] 0),m]:=aq.jN (a:=[q0]) LK ((aq.one m).new EO (kO [] 0));have ZA:(Tr.jP l).length<=16:=bq (bC _ _) (by rw[aH];exact hl);unfold pI;generalize Tr.jP l=T at NP ZA;obtain⟨a,c,rfl⟩:=NP.il.ia.shape;obtain⟨q1,k1,k2,bZ⟩:=aq.sK (bM.ir [0,2,1]);have hT:=NP.il.ia.sub k1;refine .mk (ι:=Nat) (λi=>T.length-i) (λi mm=>i<=T.length/\∃q D clock M,aq mm [blk1 bm (kO D clock),q]/\cL q1 q/\By q D clock M/\M.Perm (iy [] ((T.take i).flatMap λn=>K9 L part n))/\D.length<=2000*i) (λi=>[(0,.c (.v v)),(1,.c (i64 part)),(7,.c (.v (.map (some bm)))),(14,.c (.v (.slice a T.length c))),(15,.c (i64 T.length)),(16,.c (i64 i))]) (λ_=>[]) 0 ⟨by omega,q1,[],0,[],bZ.ir [1,0],cL.refl _,By.nil _,mP _,by simp⟩ ?_ ?_
 ·exact Cr
 rintro i mm⟨hi,q,D,clock,M,hs,hsq,hM,hp,hDl⟩;apply bI<;>intro h
 ·have h':=ah h
  have bH:i<T.length:=by omega
  obtain⟨bl,ol,c',hh,U7⟩:=(hT.sub (hsq.trans (hs.sub))).real bH;injection hh with eK _ fN;have wA:=U7 i bH
  have vd:(T.take (i+1)).flatMap (λn=>K9 L part n)=(T.take i).flatMap (λn=>K9 L part n)++K9 L part T[i]:=by
   rw[au bH,dx];simp
  generalize T[i]=n at wA vd;conv=>whnf
  simp only[eK]
  repeat refine xS ?_
  refine⟨_,wA,rfl,?_⟩;refine aP (bi.at (i:=1) hs rfl (SF (part:=part) (leaf:=n) (hS.sub (k2.trans hsq)) (h_.sub (k2.trans hsq)))) ?_;rintro _ m2⟨q2,⟨vb,rfl,hkb,dy⟩,eP⟩;have eP:aq m2 [blk1 bm (kO D clock),q2]:=eP;have hBl:=bq (BU L part n).length_le hL;generalize K9 L part n=B at*;generalize (T.take i).flatMap (λn=>K9 L part n)=A at*;obtain⟨R,hR,hK⟩:=hkb;obtain⟨ab,cb,rfl⟩:=hR.shape;have hlen:=hK.len;refine .mk (ι:=Nat) (λj=>R.length-j) (λj mm=>j<=R.length/\∃D clock M,aq mm [blk1 bm (kO D clock),q2]/\By q2 D clock M/\M.Perm (iy (iy [] A) (B.take j))/\D.length<=2000*i+j) (λj=>[(0,.c (.v v)),(1,.c (i64 part)),(7,.c (.v (.map (some bm)))),(14,.c (.v (.slice (some ⟨bl,ol,none⟩) T.length c))),(15,.c (i64 T.length)),(16,.c (i64 i)),(23,.c (.v (.slice ab R.length cb))),(24,.c (i64 R.length)),(25,.c (i64 j))]) (λ_=>[]) 0 ⟨by omega,D,clock,M,eP,hM.sub dy,by simpa [iy]using hp,by omega⟩ ?_ ?_
  ·conv=>whnf
   repeat (refine And.intro (by first|with_reducible rfl|(first|exact eK.symm▸rfl)|exact cI (wi)|exact wi|rfl) ?_;conv=>whnf)
   exact xT
  rintro j mm⟨hj,D,clock,M,hs,hM,hp,hDl⟩;apply bI<;>intro h
  ·have h':=ah h
   have U3:j<R.length:=by omega
   obtain⟨br,orr,c'',hh,Xe⟩:=(hR.sub (hs.sub (a:=q2))).real U3;injection hh with qn _ wo;have js:=Xe j U3;have hx:=hK.je j U3 (by omega);have dI:B.take (j+1)=B.take j++[B[j]]:=au (by omega);have ZH:uu (R[j]).1 (cvK R[j]) clock (D.map jz.kg)=(vP R[j] clock D).map jz.kg:=Gy _ _ _;have jG:=hM.set hx;have W9:=abE R[j] clock D;generalize B[j]'(by omega)=x at*;generalize R[j]=r at*;conv=>whnf
   simp only[qn]
   repeat refine xS ?_
   refine⟨G4 r,⟨rfl,rfl,rfl,trivial⟩,rfl,by simp only[bK,aA];exact js,?_⟩;have DU:mm bm=some (kO D clock):=hs.get (a:=blk1 bm (kO D clock)) (by simp) (aG ..);refine .mk _ (yr (P:=tP) Gp (k:=r.1) (v:=cvK r) Tryz.underlying346 Tryz.underlying9 DU) ?_;rintro _ m7 rfl;have iU:=hs.gu (i:=0) rfl (aG ..) (kO (vP r clock D) (kS r.1 clock (D.map jz.kg)));rw[cJ]at iU;refine⟨j+1,⟨by omega,_,_,_,?_,jG,?_,by omega⟩,by omega,?_⟩
   ·rw[ZH]
    exact iU
   ·rw[dI,ri]
    exact Lm hp (rJ (rJ adl _) _) x
   ·conv=>whnf
    repeat (refine And.intro (by first|with_reducible rfl|(first|exact cI (LO (by omega))|exact qn.symm▸rfl)|exact cI (wi)|exact wi|rfl) ?_;conv=>whnf)
    exact xT
  have h':=aj h;obtain rfl:j=R.length:=by omega
  rw[hlen,aJ,<-ri]at hp;refine⟨i+1,⟨by omega,q2,D,clock,M,hs,hsq.trans dy,hM,by rw[vd];exact hp,by omega⟩,by omega,?_⟩;exact Cr
 have h':=aj h;obtain rfl:i=T.length:=by omega
 rw[aJ]at hp;have wq:cL m mm:=(k2.trans hsq).trans (hs.sub);refine aP (Eh (hS.sub wq) (hs.get (a:=blk1 bm (kO D clock)) (by simp) (aG ..)) (hM.sub (hs.sub)) (rJ adl _) hp (by omega)) ?_;rintro _ m5⟨v5,p5,R5,rfl,k8,hp5,hK5⟩;exact⟨v5,rfl,wq.trans (k8.sub),R5,(hp5.el.sub (k8.sub)).ea,hK5.sub (k8.sub)⟩
end
def tC(L:List Kd)(y:gX):gX×List Kd×Int:=
 if cX L=false\/dR y=false then(fP,[],3)
 else if rB y.kind 1 3=false then(fP,[],7)
 else if y.kind=3 then(if jC L y.ca≠0 then(fP,[],jC L y.ca)else(⟨6,y.qe,y.fr,y.qA,y.part,fX,y.pl,[],pI (gn L y.ca).1 y.part y.pl⟩,(gn L y.ca).2,0))
 else if y.kind=1 then(if Tr.jI (lN L y.part) 0=y.jI then(⟨4,y.qe,y.fr,y.qA,y.part,fX,[],[],[]⟩,[],0)else(⟨5,y.qe,y.fr,y.qA,y.part,fX,[0],Tr.D8 (lN L y.part) [0],[]⟩,[],0))
 else(⟨5,y.qe,y.fr,y.qA,y.part,fX,y.pl,Tr.D8 (lN L y.part) y.pl,[]⟩,[],0)
variable{C:List Kd}
theorem Ey{L:List Kd}(hL:∀x∈L,jg x)(hC:∀x∈C,jg x):MS (gn L C) L.length C.length:=by
 have key:∀(C:List Kd) (s:List Kd×List Kd) (i:Nat),(∀x∈C,jg x)->MS s L.length i->MS (C.foldl ou s) L.length (i+C.length):=λC=>by
  induction C with
  |nil=>intro s i _ h;exact h
  |cons x C ih=>
   intro s i hx h;have:=ih (ou s x) (i+1) (λy hy=>hx y (by simp[hy])) (h.step (hx x (by simp)));rw[bd,show i+(C.length+1)=i+1+C.length by omega];exact this
 have:=key C (L,[]) 0 hC ⟨hL,by simp,adl⟩;rw[cD]at this;exact this
theorem BX{L:List Kd}(h:jC L C=0):cX L=true/\cX C=true/\cX (gn L C).1=true:=by
 unfold jC at h
 split at h
 ·cases h
 ·rename_i h1
  split at h
  ·cases h
  ·rename_i h2
   simp only[not_or,Bool.not_eq_false]at h1 h2;exact⟨h1.1,h1.2,h2⟩
theorem YH{L:List Kd}(h:cX L=true)(ha:∀x∈L,jg x):(L.map nJ).flatten.length<=6600*L.length:=B2 λx hx=>WU (ha x hx).u (lQ h x hx)
section
variable {m:aD}{v:Value}{L:List Kd}{y:gX}{t:iS}
theorem SM(hS:cK m)(hv:Bz m v L)(hy:gy m y t)(ho:qx y)(hn:L.length+y.ca.length<=1333):
  bi tP 160 [.v v,mT y t] m λr m'=>∃s' v2,r=[mT (tC L y).1 s',.v v2,i64 (tC L y).2.2]/\cL m m'/\gy m' (tC L y).1 s'/\lu m' v2 (tC L y).2.1:=by
 have hF:tC L y=if cX L=false\/dR y=false then(fP,[],3)else if rB y.kind 1 3=false then(fP,[],7)else if y.kind=3 then(if jC L y.ca≠0 then(fP,[],jC L y.ca)else(⟨6,y.qe,y.fr,y.qA,y.part,fX,y.pl,[],pI (gn L y.ca).1 y.part y.pl⟩,(gn L y.ca).2,0))else if y.kind=1 then(if Tr.jI (lN L y.part) 0=y.jI then(⟨4,y.qe,y.fr,y.qA,y.part,fX,[],[],[]⟩,[],0)else(⟨5,y.qe,y.fr,y.qA,y.part,fX,[0],Tr.D8 (lN L y.part) [0],[]⟩,[],0))else(⟨5,y.qe,y.fr,y.qA,y.part,fX,y.pl,Tr.D8 (lN L y.part) y.pl,[]⟩,[],0):=rfl
 generalize tC L y=z at*
 have uK:∀e,z=(fP,[],e)->∀mm,cL m mm->∃s' v2,[mT fP ⟨(none,0),(none,0),(none,0)⟩,.v (.slice none 0 0),i64 e]=[mT z.1 s',CV.v v2,i64 z.2.2]/\cL m mm/\gy mm z.1 s'/\lu mm v2 z.2.1:=λe h mm hs=>by
  subst h;exact⟨_,_,rfl,hs,Hf _,lu.nil _⟩
 have hl:=hv.l;have hcn:=ho.n;refine A4 awH Tryz.func160 ?_;refine aP (iC hS hv.v hv.a (by omega)) ?_;rintro _ m1⟨rfl,bM⟩;by_cases h1:cX L=true;rotate_left
 ·have h1:cX L=false:=by simpa using h1
  rw[h1];refine xY ?_;exact uK 3 (by rw[hF,aC (.inl h1)]) m1 bM
 rw[h1];refine xN ?_;refine bt (nG (hS.sub bM) (hy.sub bM) ho) ?_;by_cases h2:dR y=true;rotate_left
 ·have h2:dR y=false:=by simpa using h2
  rw[h2];refine xY ?_;exact uK 3 (by rw[hF,aC (.inr h2)]) m1 bM
 rw[h2];refine xN ?_;conv=>whnf
 rw[if_neg (by simp[h1,h2])]at hF;refine bt (Mi) ?_;by_cases h3:rB y.kind 1 3=true;rotate_left
 ·have h3:rB y.kind 1 3=false:=by simpa using h3
  rw[h3];refine xY ?_;exact uK 7 (by rw[hF,aC h3]) m1 bM
 rw[h3];refine xN ?_;conv=>whnf
 rw[if_neg (by simp[h3])]at hF;have ry:=nD h2;have hpn:=ry.pn;refine aP (ud (hy.pl.sub bM) (by omega)) ?_;rintro _ m2⟨v2,p2,rfl,bZ,lE⟩
 try refine⟨λ_ h=>(by cases h),?_⟩
 obtain⟨a2,c2,rfl⟩:=lE.il.ia.shape;have ahB:cL m1 m2:=bZ.sub (by simp);have vD:=bM.trans ahB;have ahv:=lE.il.ia.sub (bZ.sub);apply bI<;>intro h
 ·have h4:y.kind=3:=by simpa using h
  rw[aC h4]at hF;refine aP (Hm (hS.sub vD) (hv.sub vD) (hy.ca.sub vD) ho.k (by omega)) ?_;rintro _ m3⟨w1,w2,rfl,dy,hmg⟩;apply bI<;>intro h
  ·have h5:jC L y.ca≠0:=by simpa using h
   rw[aC h5]at hF;exact uK _ hF m3 (vD.trans dy)
  have h5:jC L y.ca=0:=by simpa using h
  rw[if_neg (by simp[h5])]at hF;obtain⟨Zs,hw2⟩:=hmg h5;have Q8:=Ey hv.a ho.k;have wo:=(BX h5).2.2;have Zz:=Q8.l;have hkd:=YH wo Q8.a;have alp:∀x∈(gn L y.ca).1,x.1.size<=1000000:=λx hx=>by have:=lQ wo x hx;omega
  refine aP (NA (part:=y.part) (hS.sub (vD.trans dy)) ⟨Zs,Q8.a,alp,by omega,by omega⟩ (aaV wo) (hy.pl.sub (vD.trans dy)) hpn) ?_;rintro _ m4⟨w3,rfl,eP,hk4⟩;obtain⟨a3,c3,rfl⟩:=hk4.shape;conv=>whnf
  rw[hF];exact⟨⟨(a2,c2),(none,0),(a3,c3)⟩,w2,rfl,(vD.trans dy).trans eP,⟨rfl,ahv.sub (dy.trans eP),(I0.nil _).dl.da,hk4⟩,hw2.sub eP⟩
 have h4:¬y.kind=3:=by simpa using h
 rw[if_neg h4]at hF;refine aP (AQ (part:=y.part) (hS.sub vD) (hv.sub vD)) ?_;rintro _ m3⟨rfl,dy⟩;have hm3:=vD.trans dy;have hlen:=(xI L y.part).len;generalize lN L y.part=T at*;apply bI<;>intro h
 ·have h5:y.kind=1:=by simpa using h
  rw[aC h5]at hF;refine .mk _ (qa) ?_;rintro _ _⟨b5,mo,rfl,rfl⟩;refine⟨λ_=>?_,λh=>absurd h (by simp[h5])⟩;conv=>whnf
  have e1:List.take (31+1) (nc T)=nc (Tr.jI T 0):=by simp[Tr.jI,nc]
  rw[e1,Ck];apply bI<;>intro h
  ·have h6:Tr.jI T 0=y.jI:=ah h
   rw[aC h6]at hF;conv=>whnf
   rw[hF];exact⟨⟨(none,0),(none,0),(none,0)⟩,_,rfl,hm3.trans (aD.bT _ mo),⟨rfl,(Io.nil _).il.ia,(I0.nil _).dl.da,lu.nil _⟩,lu.nil _⟩
  ·have h6:¬Tr.jI T 0=y.jI:=aj h
   rw[if_neg h6]at hF;have hi1:Ia (m3.set b5 (.cells #[.int .i64 0] 3)) (.slice (some ⟨b5,0,none⟩) 1 1) [0]:=(Il.blk1 (aD.bg ..)).ia;refine aP (Cu hlen hi1 (by simp) (λx hx=>by have:=aL.1 hx;omega)) ?_;rintro _ m5⟨v5,q5,rfl,eD,NM⟩;obtain⟨a5,c5,rfl⟩:=NM.dl.shape;conv=>whnf
   rw[hF];have gC:cL (m3.set b5 (.cells #[.int .i64 0] 3)) m5:=eD.sub (by simp);exact⟨⟨(some ⟨b5,0,none⟩,1),(a5,c5),(none,0)⟩,_,rfl,(hm3.trans (aD.bT _ mo)).trans gC,⟨rfl,hi1.sub gC,NM.dl.da.sub (eD.sub),lu.nil _⟩,lu.nil _⟩
 have h5:¬y.kind=1:=by simpa using h
 rw[if_neg h5]at hF;refine⟨λh=>absurd h (by simp[h5]),λ_=>?_⟩;refine aP (Cu hlen (ahv.sub dy) (by omega) (λx hx=>by have:=ry.pl x hx;omega)) ?_;rintro _ m5⟨v5,q5,rfl,eD,NM⟩;obtain⟨a5,c5,rfl⟩:=NM.dl.shape;conv=>whnf
 rw[hF];exact⟨⟨(a2,c2),(a5,c5),(none,0)⟩,_,rfl,hm3.trans (eD.sub),⟨rfl,(ahv.sub dy).sub (eD.sub),NM.dl.da.sub (eD.sub),lu.nil _⟩,lu.nil _⟩
def iL(a b:Int)(x:Kd):gX:=⟨7,a,b,0,0,fX,[],[],[x]⟩
theorem YT{a b:Int}{x:Kd}{ad:Option Addr}{c:Nat}(hS:cK m)(hv:Na m (.slice ad x.2.2.length c) x.2.2)(hx:jg x)(hk:x.1.size<=1000000):
  bi tP 79 [i64 a,i64 b,kyV x ad c] m λr m'=>∃s',r=[mT (if dR (iL a b x)then iL a b x else fP) s',i64 (if dR (iL a b x)then 0 else 3)]/\cL m m'/\gy m' (if dR (iL a b x)then iL a b x else fP) s':=by
 obtain⟨k,u,E⟩:=x;have hn:E.length<=1000:=hx.n;refine ub Tryz.func79 ?_;refine .mk _ (FX (k:=k) (u:=u) (s:=(ad,E.length,c)) hx.u.1) ?_;rintro _ _⟨b5,mo,rfl,rfl⟩;have B8:=aD.bT (.cells (fj (k,u,(ad,E.length,c))).toArray 81) mo;have hky:lu (m.set b5 (.cells (fj (k,u,(ad,E.length,c))).toArray 81)) (.slice (some ⟨b5,0,none⟩) 1 1) [(k,u,E)]:=⟨[(k,u,(ad,E.length,c))],(Ko.blk1 (aD.bg ..)).el.ea,dC.one ⟨rfl,rfl,hx.u.1,hv.sub B8⟩⟩;have nT:gy (m.set b5 (.cells (fj (k,u,(ad,E.length,c))).toArray 81)) (iL a b (k,u,E)) ⟨(none,0),(none,0),(some ⟨b5,0,none⟩,1)⟩:=⟨rfl,(Io.nil _).il.ia,(I0.nil _).dl.da,hky⟩;refine bt (nG (x:=iL a b (k,u,E)) (s:=⟨(none,0),(none,0),(some ⟨b5,0,none⟩,1)⟩) (hS.sub B8) nT ⟨by simpa [iL]using hx,by simpa [iL]using hk,by simpa [iL]using hn,by simp[iL],by simp[iL],by simp[iL]⟩) ?_;by_cases h:dR (iL a b (k,u,E))=true
 ·rw[h]
  refine xN ?_;exact⟨_,rfl,B8,nT⟩
 ·have h:dR (iL a b (k,u,E))=false:=by simpa using h
  rw[h];refine xY ?_;exact⟨⟨(none,0),(none,0),(none,0)⟩,rfl,B8,Hf _⟩
end
variable{b:Nat}
theorem amb{o:Nat}{arr:Array Value}{te:TypeId}(hb:m b=some (.cells arr te))(hn:0<n)(jH:o+n*4<=arr.size):
  bF tP (.builtin .clear [77]) [.v (.slice (some ⟨b,o,none⟩) n c)] m λr m'=>r=[]/\∃zs,zs.length=n*4/\(∀u∈zs,u.oneCell'=true)/\m'=m.set b (.cells (arr.toList.take o++zs++arr.toList.drop (o+n*4)).toArray te):=by
 obtain⟨ti,h1,h2⟩:=hNs;obtain⟨ei,g1,g2,g3,g4⟩:=hNn;have:=qw (P:=tP) eR h1 h2 g1 (by rw[g4,g2];rfl) (by rw[g4];exact mr.one _) (c:=c) hb hn (by rw[g2];exact jH);rw[g2]at this;exact this
variable{v:Value}
theorem uB{mm p:aD}{E:List En}{F:Nat}{pr:En->Bool}(hs:aq mm [p,m])(hv:No p v E)(hF:∀m',cL m m'->∀e∈E,eN tP F [Nv e,cx b] m' [bR (pr e)])(hl:E.length<=10000000):
  bi tP 222 [.v v,(l5 F b)] mm λr m'=>∃v' p',r=[.v v']/\aq m' [p',m]/\No p' v' (E.filter λe=>!pr e):=by
 obtain⟨a,c,rfl⟩:=hv.el.shape;refine ub Tryz.func222 ?_;refine bt (B5 (p:=pr) (hv.el.ea.sub (hs.sub)) (hF _ (hs.sub)) (by omega)) ?_;rcases lY pr E with⟨e1,e2⟩|⟨i0,Ja,e1,e2,e3⟩
 ·rw[e1]
  refine xY ?_;refine⟨_,p,rfl,hs,?_⟩;have:E.filter (λe=>!pr e)=E:=bY.2 λx hx=>by rw[e2 x hx];rfl
  rw[this];exact hv
 rw[e1];obtain⟨bl,ol,c',hh,hg⟩:=hv.el.ea.real Ja;injection hh with eK _ fN;subst eK;have ga:((i0:Int)== -1)=false:=by rw[qO];exact aY (by omega)
 refine⟨λh=>absurd h (by rw[ga];decide),λ_=>?_⟩;have ew:IntKind.i64.wrap ((i0:Int)+1)=((i0+1:Nat):Int):=qJ (by omega);conv=>whnf
 rw[ew]
 refine .mk (ι:=Nat×Nat) (λi=>E.length-i.2) (λ⟨i,j⟩ mm=>∃p Z,aq mm [p,m]/\No p (.slice (some ⟨bl,ol,none⟩) E.length c) Z/\Z.take i=(E.take j).filter (λe=>!pr e)/\Z.drop j=E.drop j/\i<j/\j<=E.length)
  (λ⟨i,j⟩=>[(0,.c (.v (.slice (some ⟨bl,ol,none⟩) E.length c))),(1,.c (l5 F b)),(5,.c (i64 i)),(6,.c (i64 j))]) (λ_=>[]) (i0,i0+1) ⟨p,E,hs,hv,?_,rfl,by omega,by omega⟩ ?_ ?_
 ·rw[au Ja,aaB]
  have:(E.take i0).filter (λe=>!pr e)=E.take i0:=bY.2 λx hx=>by rw[e3 x hx];rfl
  rw[this];simp[e2]
 ·exact Cr
 rintro⟨i,j⟩ mm ⟨p,Z,hs,hZ,ht,hd,ZD,hj⟩;have hZl:Z.length=E.length:=(mr.row hZ).choose_spec.2.1;apply bI<;>intro h
 ·have h':=ah h
  have bH:j<E.length:=by omega
  have hZE:Z[j]'(by omega)=E[j]:=by
   have:=be (λl:List En=>l[0]?) hd;simp only[cT,gO]at this;rw[az (by omega),az bH]at this;exact eL this
  obtain⟨OY,ol',c',hh,hg⟩:=hZ.el.ea.real (i:=j) (by omega);injection hh with eK _ fN;injection eK with eK;injection eK with kW I8;subst kW;subst I8;have js:=hg j (by omega);have dI:E.take (j+1)=E.take j++[E[j]]:=au bH
  have LW:Z.drop (j+1)=E.drop (j+1):=by
   rw[<-dU,<-dU,hd]
  rw[hZE]at js;have hxm:E[j]∈E:=aO bH;generalize E[j]=x at js dI hxm
  repeat refine xS ?_
  refine⟨[.one (.int .i64 x.1),.one (.int .i64 x.2.1),.one (.int .u64 x.2.2.1),.one (.int .i64 x.2.2.2)],⟨rfl,rfl,rfl,rfl,trivial⟩,rfl,by simp only[bK,aA];exact js.sub (hs.sub),?_⟩;refine bt ((hF _ (hs.sub) x hxm)) ?_
  cases hp:pr x with
  |true=>
   refine xN ?_;refine⟨(i,j+1),⟨p,Z,hs,hZ,by rw[dI,aaB,ht];simp[hp],LW,by omega,by omega⟩,by simp only;omega,?_⟩;exact Cr
  |false=>
   refine xY ?_
   repeat refine xS ?_
   obtain⟨arr,k1,k2,k3⟩:=mr.set hZ (i:=i) (by omega) x;refine⟨arr,_,_,hs.sub (a:=p) (by simp) _ _ k1,⟨by simp only[bK,aA];exact k2,Jz⟩,?_⟩;have bZ:=hs.set k1 (.cells (arr.toList.take (ol+i*4)++(qp x++arr.toList.drop (ol+i*4+4))).toArray 134);simp only[bK,aA];have U6:IntKind.i64.wrap ((i:Int)+1)=((i+1:Nat):Int):=qJ (by omega);refine⟨(i+1,j+1),⟨_,Z.set i x,bZ,k3,?_,?_,by omega,by omega⟩,by simp only;omega,?_⟩
   ·rw[dI,aaB,<-ht,au (by rw[fc];omega),jq,qQ (by omega)]
    simp[hp]
   ·rw[km (by omega)];exact LW
   ·exact Cr
 ·have h':=aj h
  obtain rfl:j=E.length:=by omega
  rw[aJ]at ht;obtain⟨arr,k1,k2,k3,k4,k5⟩:=mr.row hZ
  repeat refine xS ?_
  intro o' q1 q2;have ho:o'=ol+i*4:=by simpa using q1 (by omega)
  have ei:(i:Int).toNat=i:=by omega
  subst ho;conv=>whnf
  rw[ei];refine .mk _ (amb (hs.sub (a:=p) (by simp) _ _ k1) (by omega) (by omega)) ?_;rintro _ m'⟨rfl,zs,QY,hz2,rfl⟩;have bZ:=hs.set k1 (.cells (arr.toList.take (ol+i*4)++zs++arr.toList.drop (ol+i*4+(E.length-i)*4)).toArray 134)
  repeat refine xS ?_
  intro o' q1 q2;obtain rfl:o'=ol:=by have:=q1 (by omega);simpa [bK]using this
  conv=>whnf
  rw[ei];refine⟨_,_,rfl,bZ,?_⟩;rw[<-ht];refine mr.mk' (aD.bg ..) (by rw[aK];omega) (by omega) ?_ λj u hu=>?_
  ·simp only[dM,ax,aK,cC,cq,QY];omega
  ·have EN:=(aQ.1 hu).1
   rw[mr.wC,aK]at EN;have Re:o'+j<o'+i*4:=by have:=cS 4 (y8 i Z.length);omega
   rw[<-mr.take,bN]at hu
   split at hu
   ·have:=k5 j u hu
    rw[bz,aX,aT (by rw[aK,cq];omega),bN,aC Re,bU];exact this
   ·cases hu
abbrev XM:=Int×Int×Int
def yG(o:XM)(e:En):Bool:=decide (o.1=4)||(!decide (o.1=1)&&decide (e.1=o.2.1))
def nj(o:XM)(E:List En):List En:=E.filter λe=>!yG o e
def Jy(o:XM)(E:List En):List Dt:=AD (E.filter (yG o))
def E3(o:XM):Bool:=decide (o.1=1)||decide (o.1=2)
def tv(u:List Int)(n:Int):Int×Int:=if tk u n=18446744073709551615 then(0,13)else(tk u n+1,0)
def wa:Ev:=((0,0,0),(0,0),[])
def Jc(c:Ct)(n:Int)(o:XM):Ct×Ev×Int:=
 if E3 o=false then(if Jy o c.2=[]then((fx,[]),wa,4)else((c.1,nj o c.2),((o.1,0,0),(0,0),Jy o c.2),0))
 else if (tv c.1 n).2≠0 then((fx,[]),wa,13)
 else if 40<=(nj o c.2).length then((fx,[]),wa,5)
 else((wR c.1 n (tv c.1 n).1,nY (nj o c.2++[(o.2.1,n,(tv c.1 n).1,o.2.2)])),(o,(n,(tv c.1 n).1),Jy o c.2),0)
abbrev evL(e:Ev)(a:Option Addr)(c:Nat):LB:=[.one (.int .i64 e.1.1),.one (.int .i64 e.1.2.1),.one (.int .i64 e.1.2.2),.one (.int .i64 e.2.1.1),.one (.int .u64 e.2.1.2),.one (.slice a e.2.2.length c)]
section
variable {m:aD}
abbrev akB(o:XM):CV:=.a [.one (.int .i64 o.1),.one (.int .i64 o.2.1),.one (.int .i64 o.2.2)]
abbrev Jw(o:XM):Obj:=.cells (LB.cz [.one (.int .i64 o.1),.one (.int .i64 o.2.1),.one (.int .i64 o.2.2)]).toArray 30
theorem L0{o:XM}{e:En}:eN tP 224 [akB o,Nv e] m [bR (yG o e)]:=by
 refine ub Tryz.func224 ?_;conv=>whnf
 unfold yG;rw[qO];apply bI<;>intro h
 ·exact⟨by rw[h];rfl,rfl⟩
 rw[h,nW];apply bI<;>intro h
 ·have h':¬o.1=1:=by simpa using h
  exact⟨by rw[aY h',qO];rfl,rfl⟩
 ·have h':o.1=1:=by simpa using h
  exact⟨by rw[bB h'];rfl,rfl⟩
theorem Pz{o:XM}{e:En}{b:Nat}(hb:m b=some (Jw o)):eN tP 223 [Nv e,cx b] m [bR (yG o e)]:=by
 refine ub Tryz.func223 ?_;refine⟨[.one (.int .i64 o.1),.one (.int .i64 o.2.1),.one (.int .i64 o.2.2)],⟨rfl,rfl,rfl,trivial⟩,rfl,dQ.Wl [] [] hb rfl,?_⟩;refine bt (L0) ?_;exact rR
theorem Py{o:XM}{e:En}{b:Nat}(hb:m b=some (Jw o)):eN tP 225 [Nv e,cx b] m [bR (!yG o e)]:=by
 refine ub Tryz.func225 ?_;refine⟨[.one (.int .i64 o.1),.one (.int .i64 o.2.1),.one (.int .i64 o.2.2)],⟨rfl,rfl,rfl,trivial⟩,rfl,dQ.Wl [] [] hb rfl,?_⟩;refine bt (L0) ?_;exact rR
theorem RU{o:XM}{u:List Int}{a:Option Addr}{c:Nat}{E:List En}(hS:cK m)(hv:Na m (.slice a E.length c) E)(hl:E.length<=1000000):
  bi tP 137 [iY u a E.length c,akB o] m λr m'=>∃v1 v2 p q,r=[.v v1,.v v2]/\aq m' [p,q,m]/\No p v1 (nj o E)/\Do q v2 (Jy o E):=by
 refine A4 awM Tryz.func137 ?_;intro b hb;have LK:=(aq.one m).new hb (Jw o);have hb0:(m.set b (Jw o)) b=some (Jw o):=aD.bg ..;refine aP (l7 (hv.sub (aD.bT _ hb)) (by omega)) ?_;rintro _ m1⟨v1,p1,rfl,bM,F2⟩;refine .mk _ (df (cs:=[.pointer (some ⟨b,0,none⟩)]) (by simp[Value.oneCell'])) ?_;rintro _ _⟨rfl,rfl⟩;have aAs:=bM;refine aP (uB (pr:=yG o) bM F2 (λm' hm e _=>Pz (hm _ _ hb0)) (by omega)) ?_;rintro _ m2⟨v2,p2,rfl,bZ,lE⟩;have dy:aq m2 [p2,blk1 b (Jw o),m]:=aq.jN (a:=[p2]) bZ LK;have oM:m2 b=some (Jw o):=dy.get (a:=blk1 b (Jw o)) (by simp) (aG ..);refine aP (l7 (hv.sub (dy.sub)) (by omega)) ?_;rintro _ m4⟨v3,p3,rfl,eP,UZ⟩;refine .mk _ (df (cs:=[.pointer (some ⟨b,0,none⟩)]) (by simp[Value.oneCell'])) ?_;rintro _ _⟨rfl,rfl⟩;refine aP (uB (pr:=λe=>!yG o e) eP UZ (λm' hm e _=>Py (hm _ _ oM)) (by omega)) ?_;rintro _ m5⟨v5,p5,rfl,eD,hp5⟩;have e5:(E.filter λe=>!(λe=>!yG o e) e)=E.filter (yG o):=by simp
 rw[e5]at hp5;have gC:aq m5 [p5,p2,blk1 b (Jw o),m]:=aq.jN (a:=[p5]) eD dy;obtain⟨a5,c5,rfl⟩:=hp5.el.shape;refine aP (Lv (hS.sub (gC.sub)) (hp5.el.ea.sub (gC.sub)) (by have:=bC (yG o) E;omega)) ?_;rintro _ m7⟨v7,p7,rfl,iU,hp7⟩;have k8:aq m7 [p7,p5,p2,blk1 b (Jw o),m]:=aq.jN (a:=[p7]) iU gC;exact⟨v2,v7,p2,p7,rfl,k8.ir [2,0,4],lE,hp7⟩
theorem aet{o:XM}{n:Int}{u:List Int}{a:Option Addr}{c:Nat}{E:List En}(hS:cK m)(hv:Na m (.slice a E.length c) E)(hu:yZ u)(hI:∀e∈E,CS e)(hl:E.length<=1000)(hr:dA u E=true)(adJ:E8 o.1 o.2.1 o.2.2=true)(hn:1<=n/\n<=8):
  bi tP 75 [iY u a E.length c,i64 n,akB o] m λr m'=>∃x ev e a1 c1 a2 c2 p,(x,ev,e)=Jc (u,E) n o/\r=[iY x.1 a1 x.2.length c1,.a (evL ev a2 c2),i64 e]/\aq m' [p,m]/\Na m' (.slice a1 x.2.length c1) x.2/\Da m' (.slice a2 ev.2.2.length c2) ev.2.2:=by
 have hF:Jc (u,E) n o=if E3 o=false then(if Jy o E=[]then((fx,[]),wa,4)else((u,nj o E),((o.1,0,0),(0,0),Jy o E),0))else if (tv u n).2≠0 then((fx,[]),wa,13)else if 40<=(nj o E).length then((fx,[]),wa,5)else((wR u n (tv u n).1,nY (nj o E++[(o.2.1,n,(tv u n).1,o.2.2)])),(o,(n,(tv u n).1),Jy o E),0):=rfl
 generalize Jc (u,E) n o=z at*
 have uK:∀e,z=((fx,[]),wa,e)->∀mm q,aq mm [q,m]->∃x ev e' a1 c1 a2 c2 p,(x,ev,e')=z/\[iY fx none 0 0,.a (evL wa none 0),i64 e]=[iY x.1 a1 x.2.length c1,.a (evL ev a2 c2),i64 e']/\aq mm [p,m]/\Na mm (.slice a1 x.2.length c1) x.2/\Da mm (.slice a2 ev.2.2.length c2) ev.2.2:=λe h mm q hs=>by
  subst h;exact⟨(fx,[]),wa,e,none,0,none,0,q,rfl,rfl,hs,Na.nil _,Da.nil _⟩
 have auJ:S7 n=true:=NG.2 hn
 have vd:Ll u n=[VG (if (tv u n).2=0 then n else 0) (tv u n).1,i64 (tv u n).2]:=by
  unfold Ll tv;rw[if_neg (by rw[auJ];decide)]
  split<;>rfl
 have hz:List.take 0 (List.replicate 8 (0:Int))++(u++List.drop (0+8) (List.replicate 8 0))=u:=by simp
 refine A4 c75 Tryz.func75 ?_;refine bt (vd▸Tz (m:=m) (v:=u) (n:=n) hu.v8 ⟨by omega,by omega⟩) ?_;refine aP (RU (o:=o) hS hv (by omega)) ?_;rintro _ m1⟨v1,v2,p1,q1,rfl,bM,F2,mQ⟩;obtain⟨a1,c1,rfl⟩:=F2.el.shape;obtain⟨a2,c2,rfl⟩:=mQ.el.shape;have NT:cL m m1:=bM.sub (by simp);have FQ:(tv u n).2=0\/(tv u n).2=13:=by unfold tv;split<;>simp
 have aAi:(nj o E).length<=1000:=bq (bC _ _) hl;have hD2:=mQ.el.ea.sub (bM.sub);have hD1:=F2.el.ea.sub (bM.sub);generalize nj o E=S at*;generalize Jy o E=F at*;have h11:¬((tv u n).2==11)=true:=by rcases FQ with h|h<;>rw[h]<;>decide
 generalize tv u n=dt at*;obtain⟨dk,de⟩:=dt;simp only at hF FQ h11;by_cases k1:o.1=1
 case' pos=>
  have had:E3 o=true:=by simp[E3,k1]
  refine⟨λ_=>?_,λh=>absurd h (by simp[k1])⟩;refine bt (pV (u:=u) (hS.sub NT) (hv.sub NT) hI (by omega)) ?_;conv=>whnf
  rw[hr];refine xN ?_;refine bt (Hp) ?_;conv=>whnf
  rw[adJ];refine xN ?_;refine⟨λh=>absurd h (by exact h11),λ_=>?_⟩;conv=>whnf
 case' neg=>
  refine⟨λh=>absurd h (by simp[k1]),λ_=>?_⟩;refine bt (pV (u:=u) (hS.sub NT) (hv.sub NT) hI (by omega)) ?_;conv=>whnf
  rw[hr];refine xN ?_;refine bt (Hp) ?_;conv=>whnf
  rw[adJ];refine xN ?_;refine⟨λh=>absurd h (by exact h11),λ_=>?_⟩;by_cases k2:o.1=2;rotate_left
  ·have had:E3 o=false:=by simp[E3,k1,k2]
   rw[aC had]at hF;refine⟨λ_=>?_,λh=>absurd h (by simp[k2])⟩;apply bI<;>intro h
   ·have h0:F=[]:=cB (by have:((F.length:Nat):Int)=0:=(by simpa using h);omega)
    rw[aC h0]at hF;refine xY ?_;exact uK 4 hF _ _ (bM.ir [0,2])
   ·have h0:¬F=[]:=λe=>by subst e;simp at h
    rw[if_neg h0]at hF;refine⟨λ_=>?_,λh=>absurd h (by simp[k2])⟩;exact⟨(u,S),((o.1,0,0),(0,0),F),0,a1,c1,a2,c2,p1,hF.symm,by simp,bM.ir [0,2],hD1,hD2⟩
  have had:E3 o=true:=by simp[E3,k2]
  refine⟨λh=>absurd h (by simp[k2]),λ_=>?_⟩;refine⟨λh=>absurd h (by simp[k2]),λ_=>?_⟩;conv=>whnf
 all_goals
  rw[if_neg (by rw[had];decide)]at hF;apply bI<;>intro h;rotate_left
  ·have h0:¬de=0:=by simpa using h
   have h13:de=13:=FQ.resolve_left h0;rw[aC h0]at hF;refine⟨λ_=>?_,λh=>absurd h (by simp[h0])⟩;conv=>whnf
   rw[show(dk,de).2=13 from h13];exact uK 13 hF _ _ (bM.ir [0,2])
  have h0:de=0:=by simpa using h
  rw[if_neg (by simp[h0])]at hF;apply bI<;>intro h
  ·have h40:40<=S.length:=by have:=ah h;omega
   rw[aC h40]at hF;refine xY ?_;exact uK 5 hF _ _ (bM.ir [0,2])
  have h40:¬ 40<=S.length:=by have:=aj h;omega
  rw[if_neg h40]at hF;refine⟨λh=>absurd h (by simp[h0]),λ_=>?_⟩;conv=>whnf
  rw[aC h0];refine .mk _ (FW (e:=(o.2.1,n,dk,o.2.2))) ?_;rintro _ _⟨b5,mo,rfl,rfl⟩;refine .mk _ (Wx (i:=0) bM rfl mo F2 (by omega)) ?_;rintro _ m5⟨v5,p5,rfl,eD,hp5⟩;have eD:aq m5 [p5,q1,m]:=eD;refine aP (yb (hS.sub (eD.sub)) (hp5.el.ea.sub (eD.sub)) (by simp;omega)) ?_;rintro _ m6⟨v6,p6,rfl,gC,hp6⟩;obtain⟨a6,c6,rfl⟩:=hp6.el.shape;have iU:aq m6 [p6,p5,q1,m]:=aq.jN (a:=[p6]) gC eD;refine fU (Tx (v:=u) (n:=n) (k:=dk) ⟨by omega,by omega⟩) ?_;have hz2:List.take 0 (List.replicate 8 (0:Int))++(wR u n dk++List.drop (0+8) (List.replicate 8 0))=wR u n dk:=by simp
  subst h0;exact⟨_,_,0,a6,c6,a2,c2,p6,hF.symm,by simp,iU.ir [0,3],hp6.el.ea.sub (iU.sub),mQ.el.ea.sub (iU.sub)⟩
end
abbrev Ln:=Int×Int
def Xq(x:Ln):List Value:=[.int .i64 x.1,.int .u64 x.2]
theorem aer:fp Xq 2:=⟨λ_=>rfl,λx u hu=>by simp[Xq]at hu;rcases hu with rfl|rfl<;>rfl,by decide⟩
abbrev abm:Ty Ln:={enc:=Xq,s:=2,sl:=55,el:=98,by':=16,ts:=_,ti:=_,ok:=aer,h1:=rfl,h2:=rfl,h3:=rfl,h4:=rfl,h5:=rfl,h6:=rfl,h7:=by decide,h8:=by decide}
def uq(E:List En):Int×Int:=E.foldl (λt e=>(xn t.1 (Ha e.2.2.2),xn t.2 (sy e.2.2.2))) (0,0)
def Hx(E:List En)(ao6:Int):Int:=max ((uq (E.filter λe=>decide (e.1=ao6))).1-(uq (E.filter λe=>decide (e.1=ao6))).2) 0
def tG(E:List En)(dE:List Ln)(e:En):List Ln:=if 0<dE.length/\(dE.getD (dE.length-1) (0,0)).1=e.1 then dE else dE++[(e.1,Hx E e.1)]
def um(E:List En):List Ln:=(nY E).foldl (tG E) []
section
variable {m:aD}{u:List Int}{a:Option Addr}{c:Nat}{E:List En}
theorem aah{n:Int}{e:En}{b:Nat}(hb:m b=some (.cells #[.int .i64 n] 3)):eN tP 312 [Nv e,cx b] m [bR (!decide (e.1=n))]:=by
 refine ub Tryz.func312 ?_;refine xM hb ?_;exact⟨by rw[bne,qO],rfl⟩
theorem aeH{n:Int}(hv:Na m (.slice a E.length c) E)(hl:E.length<=1000000):bi tP 232 [iY u a E.length c,i64 n] m λr m'=>∃v p,r=[.v v]/\aq m' [p,m]/\No p v (E.filter λe=>decide (e.1=n)):=by
 refine A4 aAh Tryz.func232 ?_;intro b hb;have hb0:(m.set b (.cells #[.int .i64 n] 3)) b=some (.cells #[.int .i64 n] 3):=aD.bg ..;refine aP (l7 (hv.sub (aD.bT _ hb)) (by omega)) ?_;rintro _ m1⟨v1,p1,rfl,bM,F2⟩;refine .mk _ (df (cs:=[.pointer (some ⟨b,0,none⟩)]) (by simp[Value.oneCell'])) ?_;rintro _ _⟨rfl,rfl⟩;refine aP (uB (pr:=λe=>!decide (e.1=n)) bM F2 (λm' hm e _=>aah (hm _ _ hb0)) (by omega)) ?_;rintro _ m2⟨v2,p2,rfl,bZ,lE⟩;have e2:(E.filter λe=>!(λe:En=>!decide (e.1=n)) e)=E.filter λe=>decide (e.1=n):=by simp
 rw[e2]at lE;exact⟨v2,p2,rfl,(aq.jN (a:=[p2]) bZ ((aq.one m).new hb _)).ir [0,2],lE⟩
theorem Po(E:List En):U (uq E).1/\U (uq E).2:=by
 have key:∀(E:List En) (t:Int×Int),U t.1->U t.2->U (E.foldl (λt e=>(xn t.1 (Ha e.2.2.2),xn t.2 (sy e.2.2.2))) t).1/\U (E.foldl (λt e=>(xn t.1 (Ha e.2.2.2),xn t.2 (sy e.2.2.2))) t).2:=λE=>by
  induction E with
  |nil=>intro t h1 h2;exact⟨h1,h2⟩
  |cons e E ih=>
   intro t h1 h2;refine ih _ ?_ ?_
   ·simp only[xn,Ha,U,M62]at*
    split<;>omega
   ·simp only[xn,sy,U,M62]at*
    split<;>omega
 exact key E (0,0) (by unfold U;simp) (by unfold U;simp)
theorem aai{n:Int}(hv:Na m (.slice a E.length c) E)(hI:∀e∈E,CS e)(hl:E.length<=1000000):bi tP 146 [iY u a E.length c,i64 n] m λr m'=>(∃b,r=[u64 (Hx E n),bR b])/\cL m m':=by
 unfold Hx;have hI2:∀e∈E.filter λe=>decide (e.1=n),CS e:=λe he=>hI e (cH.1 he).1;refine ub Tryz.func146 ?_;refine aP (aeH (u:=u) (n:=n) hv hl) ?_;rintro _ m1⟨v1,p1,rfl,bM,F2⟩;have hSl:(E.filter λe=>decide (e.1=n)).length<=1000000:=bq (bC _ _) hl;generalize E.filter (λe=>decide (e.1=n))=S at*;obtain⟨a1,c1,rfl⟩:=F2.el.shape;refine .mk (ι:=Nat) (λi=>S.length-i) (λi mm=>i<=S.length/\mm=m1) (λi=>[(6,.p 1 0),(7,.c (.v (.slice a1 S.length c1))),(13,.c (.v (.slice a1 S.length c1))),(14,.c (i64 S.length)),(15,.c (i64 i))]) (λi=>[(79,[.bG .u64 8 u,.one (.slice a E.length c)]),(334,[.one (.int .u64 (uq (S.take i)).1),.one (.int .u64 (uq (S.take i)).2)])]) 0 ⟨by omega,rfl⟩ ?_ ?_
 ·exact Cr
 rintro i mm⟨hi,rfl⟩;apply bI<;>intro h
 ·have h':=ah h
  have bH:i<S.length:=by omega
  obtain⟨bl,ol,c',hh,hg⟩:=(F2.el.sub (bM.sub)).ea.real bH;injection hh with eK _ fN;subst eK;have wA:=hg i bH;have ez:=hI2 _ (aO bH)
  have dI:uq (S.take (i+1))=(xn (uq (S.take i)).1 (Ha S[i].2.2.2),xn (uq (S.take i)).2 (sy S[i].2.2.2)):=by
   rw[au bH,uq,iT];rfl
  have hU:=Po (S.take i);generalize S[i]=x at*;unfold CS at ez
  repeat refine xS ?_
  refine⟨[.one (.int .i64 x.1),.one (.int .i64 x.2.1),.one (.int .u64 x.2.2.1),.one (.int .i64 x.2.2.2)],⟨rfl,rfl,rfl,rfl,trivial⟩,rfl,by simp only[bK,aA];exact wA,?_⟩;refine bt (afc hU.1 hU.2 ez.2.2.2) ?_;refine⟨i+1,⟨by omega,rfl⟩,by omega,?_⟩;conv=>whnf
  rw[dI];exact Cr
 have h':=aj h;obtain rfl:i=S.length:=by omega
 rw[aJ];have hU:=Po S;refine bt (TB hU.1 hU.2) ?_;exact⟨⟨_,rfl⟩,bM.sub⟩
theorem aio{x:Ln}:bF tP (.buildSlice 55 1 [0]) [.a [.one (.int .i64 x.1),.one (.int .u64 x.2)]] m λr m'=>∃b,m b=none/\r=[.v (.slice (some ⟨b,0,none⟩) 1 1)]/\m'=m.set b (.cells (Xq x).toArray 98):=AL (t:=abm) (e:=x) rfl
theorem Sk(hS:cK m)(hv:Na m (.slice a E.length c) E)(hI:∀e∈E,CS e)(hl:E.length<=1000):bi tP 81 [iY u a E.length c] m λr m'=>∃v p,r=[.v v]/\aq m' [p,m]/\Gw abm p v (um E):=by
 unfold um;refine A4 c81 Tryz.func81 ?_;refine aP (yb hS hv (by omega)) ?_;rintro _ m1⟨v1,p1,rfl,bM,F2⟩;have hSl:(nY E).length<=1000:=by rw[zg];exact hl
 generalize nY E=S at*;obtain⟨a1,c1,rfl⟩:=F2.el.shape;refine .mk (ι:=Nat×Value) (λi=>S.length-i.1) (λ⟨i,y⟩ mm=>i<=S.length/\∃p dE,aq mm [p,p1,m]/\Gw abm p y dE/\dE=(S.take i).foldl (tG E) []/\dE.length<=i) (λ⟨i,y⟩=>[(1,.p 0 0),(3,.c (.v y)),(11,.c (.v (.slice a1 S.length c1))),(12,.c (i64 S.length)),(13,.c (i64 i))]) (λi=>[(79,[.bG .u64 8 u,.one (.slice a E.length c)])]) (0,.slice none 0 0) ⟨by omega,iI,[],bM.cA,Gw.nil _,rfl,by simp⟩ ?_ ?_
 ·exact Cr
 rintro⟨i,y⟩ mm ⟨hi,p,dE,hs,hp,DL,hol⟩;obtain⟨ay,cy,rfl⟩:=hp.el.shape;apply bI<;>intro h
 ·have h':=ah h
  have bH:i<S.length:=by omega
  obtain⟨bl,ol,c',hh,hg⟩:=(F2.el.sub (hs.sub)).ea.real bH;injection hh with eK _ fN;subst eK;have wA:=hg i bH
  have dI:(S.take (i+1)).foldl (tG E) []=tG E dE S[i]:=by
   rw[au bH,iT,<-DL];rfl
  generalize S[i]=x at*
  repeat refine xS ?_
  refine⟨[.one (.int .i64 x.1),.one (.int .i64 x.2.1),.one (.int .u64 x.2.2.1),.one (.int .i64 x.2.2.2)],⟨rfl,rfl,rfl,rfl,trivial⟩,rfl,by simp only[bK,aA];exact wA,?_⟩;refine⟨λh=>?b1,λh=>?b2⟩
  case' b1=>
   have h0:0<dE.length:=by have:=ah h;omega
   obtain⟨bo,oo,c'',hho,hgo⟩:=(hp.el.sub (hs.sub)).ea.real (i:=dE.length-1) (by omega);injection hho with auN _ aA1;subst auN;have hgl:=hgo (dE.length-1) (by omega);have HS:dE[dE.length-1]'(by omega)=dE.getD (dE.length-1) (0,0):=by rw[aI,az (by omega)];rfl
   rw[HS]at hgl;have ew:IntKind.i64.wrap ((dE.length:Int)-1)=((dE.length-1:Nat):Int):=by rw[wi];omega
   conv=>whnf
   rw[ew];refine⟨⟨by omega,by omega⟩,?_⟩;refine⟨.int .i64 (dE.getD (dE.length-1) (0,0)).1,by have:=fZ (j:=0) hgl rfl;simpa [bK]using this,rfl,?_⟩;refine⟨λh2=>?c1,λh2=>?c2⟩
  case c1=>
   have e0:(dE.getD (dE.length-1) (0,0)).1=x.1:=by simpa using h2
   have lD:tG E dE x=dE:=by rw[tG,aC ⟨h0,e0⟩]
   rw[lD]at dI;refine⟨(i+1,.slice (some ⟨bo,oo,none⟩) dE.length cy),⟨by omega,p,dE,hs,hp,dI.symm,by omega⟩,by show S.length-(i+1)<S.length-i;omega,?_⟩;exact Cr
  case' c2=>
   have UX:tG E dE x=dE++[(x.1,Hx E x.1)]:=by rw[tG,if_neg λh=>absurd h.2 (by simpa using h2)]
  case' b2=>
   have UX:tG E dE x=dE++[(x.1,Hx E x.1)]:=by rw[tG,if_neg λh0=>by have h1:=aj h;have:=h0.1;omega]
  all_goals
   rw[UX]at dI;refine aP (aai (u:=u) (n:=x.1) (hv.sub (hs.sub)) hI (by omega)) ?_;rintro _ m5⟨⟨bb,rfl⟩,eD⟩;have gC:=hs.grow eD;refine .mk _ (aio (x:=(x.1,Hx E x.1))) ?_;rintro _ _⟨b7,Te,rfl,rfl⟩;refine .mk _ (Az (t:=abm) (i:=0) (x:=(x.1,Hx E x.1)) gC rfl Te hp (by omega)) ?_;rintro _ m8⟨y',p',rfl,k8,tZ⟩;refine⟨(i+1,y'),⟨by omega,p',_,k8,tZ,dI.symm,by simp;omega⟩,by simp only;omega,?_⟩;exact Cr
 have h':=aj h;obtain rfl:i=S.length:=by omega
 rw[aJ]at DL;subst DL;exact⟨_,p,rfl,hs.ir [0,2],hp⟩
end
structure vF where
 kind:Int
 (id:Int)
 (key:ByteArray)
 (op:Int×Int×Int)
 (dr:Int)
 (AB:gX)
abbrev vF.L(x:vF)(s:iS):LB:=.one (.int .i64 x.kind):: .one (.int .i64 x.id):: .one (.string x.key):: .one (.int .i64 x.op.1):: .one (.int .i64 x.op.2.1):: .one (.int .i64 x.op.2.2):: .one (.int .u64 x.dr)::x.AB.L s
abbrev JD(x:vF)(s:iS):CV:=.a (x.L s)
structure vC(m:aD)(x:vF)(s:iS):Prop where
 je:gy m x.AB s
 (ok:qx x.AB)
 (k:x.key.size<=1000000)
def wK(x:vF):Bool:=rB x.id 1 1099511627776&&kZ (jR x.key)
def Uh(x:vF):vF:=
 if x.kind=1 then⟨x.kind,x.id,x.key,x.op,0,fP⟩
 else if x.kind=2 then⟨x.kind,x.id,x.key,(0,0,0),0,fP⟩
 else if x.kind=4 then⟨x.kind,0,ByteArray.empty,(0,0,0),x.dr,fP⟩
 else if x.kind=5 then⟨x.kind,0,ByteArray.empty,(0,0,0),0,x.AB⟩
 else⟨x.kind,0,ByteArray.empty,(0,0,0),0,fP⟩
def WA(x:vF)(s:iS):iS:=if x.kind=5 then s else⟨(none,0),(none,0),(none,0)⟩
def PH(x y:vF):Bool:=(x.kind==y.kind)&&((x.id==y.id)&&(decide (x.key=y.key)&&(decide (x.op=y.op)&&((x.dr==y.dr)&&GF x.AB y.AB))))
def S5(x:vF):Bool:=
 if x.kind=1 then wK x&&E8 x.op.1 x.op.2.1 x.op.2.2
 else if x.kind=2 then wK x
 else if x.kind=5 then dR x.AB
 else rB x.kind 1 8
def aaL(x:vF):Bool:=S5 x&&PH x (Uh x)
section
variable {m:aD}{x y:vF}{s t:iS}
theorem B7(hk:x.key.size<=1000000):eN tP 69 [JD x s] m [bR (wK x)]:=by
 refine ub Tryz.func69 ?_;conv=>whnf
 unfold wK rB
 repeat' (first|(refine⟨λh=>?_,λh=>?_⟩<;>conv=>whnf)|fail)
 all_goals first|exact⟨by simp_all<;>omega,rfl⟩|skip
 refine bt (iB hk) ?_;exact⟨by simp_all,rfl⟩
theorem Zo(hd:x.AB.jI.length=32):eN tP 73 [JD x s] m [JD (Uh x) (WA x s)]:=by
 refine A4 c73 Tryz.func73 ?_;conv=>whnf
 unfold Uh WA;have hz:nc fX=List.replicate 32 (0:Int):=rfl;apply bI<;>intro h
 ·have h1:x.kind=1:=by simpa using h
  conv=>whnf
  rw[aC h1,if_neg (by omega)];exact rR
 have h1:¬x.kind=1:=by simpa using h
 rw[if_neg h1];apply bI<;>intro h
 ·have h2:x.kind=2:=by simpa using h
  conv=>whnf
  rw[aC h2,if_neg (by omega)];exact rR
 have h2:¬x.kind=2:=by simpa using h
 rw[if_neg h2];apply bI<;>intro h
 ·have h2:x.kind=4:=by simpa using h
  conv=>whnf
  rw[aC h2,if_neg (by omega)];exact rR
 have h2:¬x.kind=4:=by simpa using h
 rw[if_neg h2];apply bI<;>intro h
 ·have h2:x.kind=5:=by simpa using h
  conv=>whnf
  rw[aC h2,aC h2];exact rR
 have h2:¬x.kind=5:=by simpa using h
 conv=>whnf
 rw[if_neg h2,if_neg h2];exact rR
theorem agv(h:vC m x s):vC m (Uh x) (WA x s):=by
 have hn:gy m fP ⟨(none,0),(none,0),(none,0)⟩:=⟨rfl,(Io.nil m).il.ia,(I0.nil m).dl.da,lu.nil m⟩;have ho:qx fP:=⟨by simp[fP],by simp[fP],by simp[fP],by simp[fP],by simp[fP],by simp[fP]⟩;unfold Uh WA;by_cases h5:x.kind=5
 ·rw[if_neg (by omega),if_neg (by omega),if_neg (by omega),aC h5,aC h5]
  exact⟨h.je,h.ok,show ByteArray.empty.size<=1000000 by decide⟩
 rw[if_neg h5];have h0:ByteArray.empty.size<=1000000:=by decide
 repeat' split
 all_goals first|exact⟨hn,ho,h.k⟩|exact⟨hn,ho,h0⟩|contradiction
theorem UQ(hx:vC m x s)(hy:vC m y t):eN tP 72 [JD x s,JD y t] m [bR (PH x y)]:=by
 refine ub Tryz.func72 ?_;conv=>whnf
 unfold PH
 iterate 2 (refine⟨λh=>?_,λh=>?_⟩;rotate_left;(conv=>whnf);exact⟨by rw[h];rfl,rfl⟩;rw[h,bj];conv=>whnf)
 rw[KG]
 iterate 1 (refine⟨λh=>?_,λh=>?_⟩;rotate_left;(conv=>whnf);exact⟨by rw[h];rfl,rfl⟩;rw[h,bj];conv=>whnf)
 have eo:rD [.one (.int .i64 x.op.1),.one (.int .i64 x.op.2.1),.one (.int .i64 x.op.2.2)] [.one (.int .i64 y.op.1),.one (.int .i64 y.op.2.1),.one (.int .i64 y.op.2.2)]=decide (x.op=y.op):=by
  obtain⟨a,b,c⟩:=x.op;obtain⟨a',b',c'⟩:=y.op;rw[nV];simp only[rD,ceq,aB,gU,mj,bA,cV]
 rw[eo]
 iterate 2 (refine⟨λh=>?_,λh=>?_⟩;rotate_left;(conv=>whnf);exact⟨by rw[h];rfl,rfl⟩;rw[h,bj];conv=>whnf)
 refine bt (A2 hx.je hy.je hx.ok) ?_;exact rR
theorem nK{ok:Bool}(hx:vC m x s):
  Tl c36 (AU 9 (yX Tryz.f36)) (Mm tt.get Tryz.f36.results.toList λr m'=>r=[bR (ok&&PH x (Uh x))]/\m'=m)
   [(1,.p 0 0),(3,.c (bR ok))] [(40,x.L s)] m []:=by
 refine .at ?_;apply bI<;>intro h;rotate_left
 ·exact⟨by rw[h];rfl,rfl⟩
 rw[h,bj];refine fU (Zo hx.je.Th) ?_;refine bt (UQ hx (agv hx)) ?_;exact rR
theorem QQ(hS:cK m)(hx:vC m x s):eN tP 36 [JD x s] m [bR (aaL x)]:=by
 refine A4 c36 Tryz.func36 ?_;conv=>whnf
 unfold aaL;apply bI<;>intro h0
 ·have ZO:1<=x.kind:=by simpa using h0
  apply bI<;>intro h
  ·have h1:x.kind=1:=by simpa using h
   rw[show S5 x=(wK x&&E8 x.op.1 x.op.2.1 x.op.2.2) by unfold S5;rw[aC h1]];refine bt (B7 hx.k) ?_;apply bI<;>intro h5
   ·rw[h5,bj]
    refine bt (Hp) ?_;have tl:=nK (m:=m) (s:=s) (ok:=E8 x.op.1 x.op.2.1 x.op.2.2) hx
    conv at tl=>whnf
    refine .via _ _ ?_ tl;exact Cr
   ·rw[h5,fH]
    have tl:=nK (m:=m) (s:=s) (ok:=false) hx
    conv at tl=>whnf
    refine .via _ _ ?_ tl;exact Cr
  have h1:¬x.kind=1:=by simpa using h
  apply bI<;>intro h
  ·have h2:x.kind=2:=by simpa using h
   rw[show S5 x=wK x by unfold S5;rw[if_neg h1,aC h2]];refine bt (B7 hx.k) ?_;have tl:=nK (m:=m) (s:=s) (ok:=wK x) hx
   conv at tl=>whnf
   refine .via _ _ ?_ tl;exact Cr
  have h2:¬x.kind=2:=by simpa using h
  apply bI<;>intro h
  ·have h3:x.kind=5:=by simpa using h
   rw[show S5 x=dR x.AB by unfold S5;rw[if_neg h1,if_neg h2,aC h3]];refine bt (nG hS hx.je hx.ok) ?_;have tl:=nK (m:=m) (s:=s) (ok:=dR x.AB) hx
   conv at tl=>whnf
   refine .via _ _ ?_ tl;exact Cr
  have h3:¬x.kind=5:=by simpa using h
  rw[show S5 x=decide (x.kind<=8) by unfold S5;rw[if_neg h1,if_neg h2,if_neg h3,rB,bB ZO,bj]];have tl:=nK (m:=m) (s:=s) (ok:=decide (x.kind<=8)) hx
  conv at tl=>whnf
  refine .via _ _ ?_ tl;exact Cr
 ·have ZO:¬ 1<=x.kind:=by simpa using h0
  have h1:¬x.kind=1:=by omega
  have h2:¬x.kind=2:=by omega
  have h3:¬x.kind=5:=by omega
  rw[show S5 x=false by unfold S5;rw[if_neg h1,if_neg h2,if_neg h3,rB,aY ZO,fH]];refine⟨λh=>absurd h (by simpa using h1),λ_=>?_⟩;refine⟨λh=>absurd h (by simpa using h2),λ_=>?_⟩;refine⟨λh=>absurd h (by simpa using h3),λ_=>?_⟩;have tl:=nK (m:=m) (s:=s) (ok:=false) hx
  conv at tl=>whnf
  refine .via _ _ ?_ tl;exact Cr
end
variable {mm p q:aD}{X:Jg}{qt:Int}{N:fw}{j k:Nat}
structure NdT(N:fw):Prop where
 (c:N.c.ok=true)
 w:N.w.ok=true
 n:1<=N.n/\N.n<=N.c.jv
theorem NdT.n8(h:NdT N):1<=N.n/\N.n<=8:=by
 have:=(Rc.lj.1 h.c).1;have:=h.n;omega
section
variable {lv:Value}{pr ps pf pb pl:aD}{R:List AM}
theorem nS.MQ(h:nS mm q X qt N lv pr ps pf pb pl R):∃j,aq j [pr,q]/\aq mm [j,blk1 X.a (iq X N lv),ps,pf,pb,pl]:=
 aq.ad9 (k:=[pr,q]) (h.sp.ir [1,6,0,2,3,4,5])
theorem nS.Em{m' j' pr' q':aD}(h:nS mm q X qt N lv pr ps pf pb pl R)(hs:aq m' [j',blk1 X.a (iq X N lv),ps,pf,pb,pl])(h1:aq j' [pr',q'])(h2:cL q q')(h3:jY pr' X.br N.c):nS m' q' X qt N lv pr' ps pf pb pl R:=
 ⟨(aq.tQ hs h1).ir [2,0,3,4,5,6,1],h3,h.s.sub h2,h.f,h.b.grow h2,h.l.sub h2⟩
theorem nS.ba(h:nS mm q X qt N lv pr ps pf pb pl R):aq mm [q,blk1 X.a (iq X N lv),pr,ps,pf,pb,pl]:=h.sp.ir [6,0,1,2,3,4,5]
theorem nS.ba'{m' q':aD}(h:nS mm q X qt N lv pr ps pf pb pl R)(hs:aq m' [q',blk1 X.a (iq X N lv),pr,ps,pf,pb,pl])(hq:cL q q'):nS m' q' X qt N lv pr ps pf pb pl R:=
 ⟨hs.ir [1,2,3,4,5,6,0],h.r,h.s.sub hq,h.f,h.b.grow hq,h.l.sub hq⟩
theorem nS.cl(h:nS mm q X qt N lv pr ps pf pb pl R):∃p,aq mm [p,q]/\y0 p q X qt N:=by
 obtain⟨h2,h3⟩:=aq.k9 [blk1 X.a (iq X N lv),pr,ps,pf,pb,pl] (l:=[q]) h.sp;exact⟨_,h2,lv,pr,ps,pf,pb,pl,R,h3,h.r,h.s,h.f,h.b,h.l⟩
end
structure XL where
 err:Int
 (ev:Ev)
 (ln:List Ln)
abbrev agk(r:XL)(ea:Option Addr)(ec:Nat)(la:Option Addr)(lc:Nat):LB:=[.one (.int .i64 r.err),.one (.int .i64 r.ev.1.1),.one (.int .i64 r.ev.1.2.1),.one (.int .i64 r.ev.1.2.2),.one (.int .i64 r.ev.2.1.1),.one (.int .u64 r.ev.2.1.2),.one (.slice ea r.ev.2.2.length ec),.one (.slice la r.ln.length lc)]
structure NdR(m' q:aD)(X:Jg)(qt:Int)(N:fw)(y:XL)(r:List CV):Prop where
 ex:∃p' q' ea ec la lc,r=[.a (agk y ea ec la lc)]/\aq m' [p',q']/\cL q q'/\y0 p' q' X qt N/\Ga abm q' (.slice la y.ln.length lc) y.ln
variable{m':aD}
theorem NdR.uK{e:Int}(h:tD m' q X qt N):NdR m' q X qt N ⟨e,wa,[]⟩ [.a (agk ⟨e,wa,[]⟩ none 0 none 0)]:=by
 obtain⟨p',q',h1,h2,h3⟩:=h.ex;exact⟨p',q',none,0,none,0,rfl,h1,h2,h3,Ga.nil _⟩
def fw.push(N:fw)(qe:Int)(x:Kd):fw:=if dR (iL N.n qe x)then N.send (iL N.n qe x)else N
def fw.x5(N:fw)(l:List Int)(x:Kd):fw:=l.foldl (λN t=>N.push t x) N
def lW(qt:Int)(N:fw)(x:vF):fw×XL:=
 if sJ N.c N.n x.key=false then(N,⟨12,wa,[]⟩)
 else if (Jc (gh N.s.L x.key) N.n x.op).2.2≠0 then(N,⟨(Jc (gh N.s.L x.key) N.n x.op).2.2,wa,[]⟩)
 else if rq qt N.A N.s (x.key,(Jc (gh N.s.L x.key) N.n x.op).1)≠0 then(N,⟨rq qt N.A N.s (x.key,(Jc (gh N.s.L x.key) N.n x.op).1),wa,[]⟩)
 else(((N.put (x.key,(Jc (gh N.s.L x.key) N.n x.op).1)).nX ⟨x.id,0,[]⟩).x5 (ko N.c x.key N.n) (x.key,(Jc (gh N.s.L x.key) N.n x.op).1),⟨0,(Jc (gh N.s.L x.key) N.n x.op).2.1,[]⟩)
theorem GB(N:fw)(x:gX):(N.send x).B.dE.length<=N.B.dE.length+1:=by
 show(N.B.send x _).dE.length<=_
 unfold kf.send
 grind
structure y7(N M:fw)(n:Nat):Prop where
 (e:M={N with B:=M.B})
 l:M.B.dE.length<=N.B.dE.length+n
theorem ab8(N:fw)(t:Int)(x:Kd):y7 N (N.push t x) 1:=by
 unfold fw.push;split
 ·exact⟨rfl,GB N _⟩
 ·exact⟨rfl,by omega⟩
variable{M:fw}
theorem y7.trans{N M':fw}{a:Nat}(h:y7 N M a)(h':y7 M M' b):y7 N M' (a+b):=by
 refine⟨?_,by have:=h.l;have:=h'.l;omega⟩;have h1:=h.e;have h2:=h'.e;rw[h2,h1]
theorem rL(x:Kd):∀(l:List Int) (N:fw),y7 N (N.x5 l x) l.length
 |[],N=>⟨rfl,by simp[fw.x5]⟩
 |t::l,N=>by
  have:=(ab8 N t x).trans (rL x l (N.push t x));rw[uG]at this;exact this
variable{a:Int}
theorem ab9{b:Int}(h:ki x):IY (iL a b x):=by
 have hk:=h.key;have hl:=h.len;have hm:∀c∈(iL a b x).ca,c=x:=λc hc=>aL.1 hc;refine⟨⟨λc hc=>by rw[hm c hc];exact h.arg,λc hc=>by rw[hm c hc];omega,λc hc=>by rw[hm c hc];exact h.arg.n,by show([x]:List Kd).length<=_;simp,by show([]:List Int).length<=_;simp,by show([]:List (List Nat)).length<=_;simp⟩,⟨?_,by show ∀d∈([]:List (List Nat)),_;simp⟩,?_⟩
 ·show ∀n∈fX,n<256
  intro n hn;simp[fX]at hn;omega
 ·show(List.map nJ [x]).flatten.length<=_
  simp;omega
theorem Vm{L:List Kd}(h:∀x∈L,ki x)(k:ByteArray):dA (gh L k).1 (gh L k).2=true:=by
 cases e:vj L k with
 |none=>
  rw[gh,e];have h1:AD []=[]:=by simp[AD,TW,uP,gL]
  show dA fx []=true
  unfold dA;rw[h1];decide
 |some c=>rw[gh,e];exact(h _ (L6 e)).r
variable{n:Int}
theorem Xt{k:ByteArray}{u:List Int}{E:List En}{o:XM}(hu:yZ u)(hE:∀e∈E,CS e)(hl:E.length<=1000)(hn:1<=n/\n<=8)(ho:I o.2.1/\I o.2.2):jg (k,(Jc (u,E) n o).1):=by
 have dI:∀e∈nj o E,CS e:=λe he=>hE e (cH.1 he).1;have W9:(nj o E).length<=1000:=bq (bC _ _) hl;unfold Jc;split
 ·split
  ·exact⟨pg,by simp,by simp⟩
  ·exact⟨hu,dI,W9⟩
 split
 ·exact⟨pg,by simp,by simp⟩
 rename_i hd;split
 ·exact⟨pg,by simp,by simp⟩
 rename_i h40
 have hU:U (tv u n).1:=by
  have h1:U (tk u n):=ad6 hu.v8 n;unfold tv at hd⊢
  split at hd
  ·exact absurd hd (by simp)
  ·rename_i h2
   rw[if_neg h2];have h2:¬tk u n=18446744073709551615:=h2
   show 0<=tk u n+1/\tk u n+1<18446744073709551616
   unfold U at h1;omega
 refine⟨⟨?_,λx hx=>?_⟩,λe he=>?_,?_⟩
 ·show(wR u n _).length=8
  unfold wR;split
  ·rw[fc];exact hu.1
  ·exact hu.1
 ·have hx:x∈wR u n (tv u n).1:=hx
  unfold wR at hx
  split at hx
  ·rcases fa hx with hx|rfl
   ·exact hu.2 x hx
   ·have h2:U (u.getD (n-1).toNat 0):=by
     rw[aI]
     cases e:u[(n-1).toNat]? with
     |none=>exact⟨by decide,by decide⟩
     |some y=>exact hu.2 y (dJ e)
    have hU:=hU;unfold U at hU h2;unfold BC;omega
  ·exact hu.2 x hx
 ·have he:e∈nY (nj o E++[(o.2.1,n,(tv u n).1,o.2.2)]):=he
  have he:=(qR _ _).mem_iff.1 he;rcases aR.1 he with he|he
  ·exact dI e he
  ·rw[aL.1 he]
   exact⟨ho.1,by unfold I;simp only;omega,hU,ho.2⟩
 ·show(nY _).length<=1000
  rw[zg,ax,eV]
  show(nj o E).length+1<=1000
  have h40:¬ 40<=(nj o E).length:=h40;omega
theorem ajf{o:XM}(h:E8 o.1 o.2.1 o.2.2=true):I o.2.1/\I o.2.2:=by
 unfold E8 at h;unfold I
 grind
variable{x:vF}{s:iS}
theorem Qj(hg:jZ q)(hs:aq mm [p,q])(h:y0 p q X qt N)(hT:NdT N)(hI:pO qt j k N)(hj:j<=1260)(hk:k<=500)(hx:vC q x s)(adJ:E8 x.op.1 x.op.2.1 x.op.2.2=true)(ho:N.B.dE.length+(ko N.c x.key N.n).length<500)(Rp:N.B.o7.length<=1000):
  bi tP 37 [cx X.a,JD x s] mm λr m'=>NdR m' q X qt (lW qt N x).1 (lW qt N x).2 r:=by
 obtain⟨lv,pr,ps,pf,pb,pl,R,hn⟩:=h.op hs;have EM:=hx.k;refine A4 c37 Tryz.func37 ?_;refine xM hn.o ?_;refine xM hn.o ?_;obtain⟨j1,LR,bM⟩:=hn.MQ;refine aP (bi.frame bM (tN (k:=x.key) (n:=N.n) hg.j8 hT.c LR hn.r EM)) ?_;rintro _ m1⟨j2,⟨pr',rfl,bZ,jK⟩,dy⟩;have ml:=hn.Em dy bZ (cL.refl _) jK;obtain⟨dE,hF⟩:∃o,lW qt N x=o:=⟨_,rfl⟩;rw[hF];unfold lW at hF;by_cases h1:sJ N.c N.n x.key=true;rotate_left
 ·have h1:sJ N.c N.n x.key=false:=by simpa using h1
  rw[aC h1]at hF;rw[h1];refine xY ?_;subst hF;obtain⟨p1,eP,hn4⟩:=ml.cl;exact .uK (tD.cR eP hn4)
 rw[if_neg (by rw[h1];decide)]at hF;rw[h1];refine xN ?_;obtain⟨bl1,lv1,sv1,ak2⟩:=ml.sr;have hgA:=qo (λx hx=>(hI.gl x hx).arg) x.key;have hgR:=Vm hI.gl x.key;refine xM ml.o ?_;refine aP (Db ak2 (k:=x.key) (by have:=hI.ll;omega) (by have:=hgA.n;simp only at this;omega)) ?_;rintro _ m2⟨a2,c2,p2,rfl,eP,lD⟩;obtain⟨q2,rO,lE,kV⟩:=ml.up eP;generalize gh N.s.L x.key=was at*;obtain⟨wu,wE⟩:=was;simp only at hgA hgR lD hF⊢;refine xM kV.o ?_;have hwn:wE.length<=1000:=hgA.n;refine aP (bi.frame kV.ba (aet (n:=N.n) (o:=x.op) (u:=wu) (hg.j8.sub rO) (lD.ea.sub lE) hgA.u hgA.e hwn hgR adJ hT.n8)) ?_;rintro _ m3⟨q3,⟨c',ev,e,a1,c1,a2,c2,p3,hdo,rfl,eD,hna,hda⟩,gC⟩;have adx:cL q2 q3:=eD.sub (by simp);have LQ:=kV.ba' gC adx;have EK:=rO.trans adx;have HZ:=Xt (k:=x.key) hgA.u hgA.e hwn hT.n8 (ajf adJ);rw[<-hdo]at hF HZ;simp only at hF;obtain⟨cu,cE⟩:=c';simp only at hF hna⊢;apply bI<;>intro h2
 ·have h2:e≠0:=by simpa using h2
  rw[aC h2]at hF;subst hF;obtain⟨p1,iU,hn7⟩:=LQ.cl;exact .uK ((tD.cR iU hn7).lB EK)
 have h2:e=0:=by simpa using h2
 rw[if_neg (by simp[h2])]at hF;refine xM LQ.o ?_;obtain⟨j4,hj4,iU⟩:=LQ.sto;refine aP (bi.frame iU (AT (k:=x.key) (u:=cu) (hg.sub EK) hj4 LQ.s LQ.f (hI.sm (by omega) hk) hna HZ EM hI.qr (by have:=hI.rl;omega) (by have:=hI.ll;omega))) ?_;rintro _ m4⟨j5,u9,k8⟩;rcases u9 with⟨e1,rfl,hLq⟩|⟨e1,rfl,hLq⟩
 ·rw[aC e1]at hF
  have Tc:=LQ.ME k8 hLq;refine⟨λ_=>?_,λh=>absurd h (by simpa using e1)⟩;subst hF;exact .uK (Tc.lB EK)
 rw[if_neg (by simpa using e1)]at hF;have Tc:=LQ.ME k8 hLq;obtain⟨p4,q4,zv,apE,hn4⟩:=Tc.ex;refine xN ?_;refine aP (Hc (x:=⟨x.id,0,[]⟩) (s:=(none,0)) zv hn4 (Io.nil _).il.ia (by simp) Rp rfl) ?_;rintro _ m5⟨rfl,hL5⟩;obtain⟨p5,q5,nr,apD,w6⟩:=hL5.ex
 have hgl:ki (x.key,(cu,cE)):=by
  obtain⟨k1,k2,k3⟩:=Ef (KX e1).1;exact⟨k1,HZ.u,k2⟩
 have aus:Na q5 (.slice a1 cE.length c1) cE:=hna.sub (apE.trans apD);have hN5:((N.put (x.key,(cu,cE))).nX ⟨x.id,0,[]⟩).n=N.n/\((N.put (x.key,(cu,cE))).nX ⟨x.id,0,[]⟩).c=N.c/\((N.put (x.key,(cu,cE))).nX ⟨x.id,0,[]⟩).B.dE.length=N.B.dE.length:=⟨rfl,rfl,rfl⟩;have w6:y0 p5 q5 X qt ((N.put (x.key,(cu,cE))).nX ⟨x.id,0,[]⟩):=w6;have hF5:dE=(((N.put (x.key,(cu,cE))).nX ⟨x.id,0,[]⟩).x5 (ko N.c x.key N.n) (x.key,(cu,cE)),⟨0,ev,[]⟩):=hF.symm;generalize ((N.put (x.key,(cu,cE))).nX ⟨x.id,0,[]⟩)=N5 at*;obtain⟨en,ec,eo⟩:=hN5;have NM:=EK.trans (apE.trans apD);obtain⟨lv5,pr5,ps5,pf5,pb5,pl5,R5,I9⟩:=w6.op nr;refine xM I9.o ?_;refine xM I9.o ?_;obtain⟨j6,hj6,u7⟩:=I9.MQ;refine aP (bi.frame u7 (P7 (k:=x.key) (n:=N5.n) (hg.sub NM).j8 (by rw[ec];exact hT.c) hj6 I9.r EM)) ?_;rintro _ m7⟨j7,⟨v7,pr7,q7,rfl,JJ,hr7,hv7⟩,NL⟩;obtain⟨q8,ha8,hb8,Zu⟩:=aq.sK (JJ.ir [1,2,0]);have JO:=I9.Em NL (Zu.ir [1,0]) hb8 hr7;rw[ec,en]at hv7;have hlen:=zr hT.c x.key;have hol:(ko N.c x.key N.n).length<=128:=bq (bC _ _) hlen;have hv8:=hv7.il.ia.sub ha8;generalize ko N.c x.key N.n=l at*;obtain⟨av,cv,rfl⟩:=hv8.shape;obtain⟨p8,ahq,tj⟩:=JO.cl;refine .mk (ι:=Nat) (λi=>l.length-i) (λi mm=>i<=l.length/\tD mm q8 X qt (N5.x5 (l.take i) (x.key,(cu,cE)))) (λi=>[(0,.c (cx X.a)),(3,.p 0 0),(4,.p 1 0),(5,.p 2 0),(7,.p 3 0),(83,.c (.v (.slice av l.length cv))),(84,.c (i64 l.length)),(85,.c (i64 i))]) (λi=>[(40,x.L s),(57,agk ⟨0,wa,[]⟩ none 0 none 0),(79,[.bG .u64 8 cu,.one (.slice a1 cE.length c1)]),(54,evL ev a2 c2)]) 0 ⟨by omega,tD.cR ahq tj⟩ ?_ ?_
 ·exact Cr
 rintro i m9⟨hi,hL9⟩;obtain⟨p9,q9,ak5,hq9,tj⟩:=hL9.ex;have HW:=rL (x.key,(cu,cE)) (l.take i) N5;have hbn:(N5.x5 (l.take i) (x.key,(cu,cE))).n=N5.n:=by rw[HW.e]
 have Xj:=HW.l;rw[aK]at Xj;apply bI<;>intro h
 ·have h':=ah h
  have bH:i<l.length:=by omega
  obtain⟨b2,ol,c',hh,js⟩:=(hv8.sub (hq9.trans (ak5.sub))).real bH;injection hh with eK _ fN;subst eK;have js:=js i bH
  have dI:(N5.x5 (l.take (i+1)) (x.key,(cu,cE)))=(N5.x5 (l.take i) (x.key,(cu,cE))).push l[i] (x.key,(cu,cE)):=by
   rw[au bH,fw.x5,iT];rfl
  generalize N5.x5 (l.take i) (x.key,(cu,cE))=N9 at*;generalize l[i]=t at*;obtain⟨lv9,pr9,ps9,pf9,pb9,pl9,R9,NS⟩:=tj.op ak5
  repeat refine xS ?_
  refine⟨_,by simp only[bK,aA];exact js,rfl,?_⟩;refine xM NS.o ?_;have hqq:=hb8.trans hq9;refine aP (bi.frame NS.ba (YT (a:=N9.n) (b:=t) (x:=(x.key,(cu,cE))) ((hg.sub NM).j8.sub hqq) (aus.sub hqq) HZ EM)) ?_;rintro _ m10⟨q10,⟨s10,rfl,UY,apQ⟩,atZ⟩;have alh:=NS.ba' atZ UY;obtain⟨p11,apv,adG⟩:=alh.cl;have hps:N9.push t (x.key,(cu,cE))=if dR (iL N9.n t (x.key,(cu,cE)))then N9.send (iL N9.n t (x.key,(cu,cE)))else N9:=rfl
  rw[hps]at dI;have Zv:=hq9.trans UY;by_cases hr:dR (iL N9.n t (x.key,(cu,cE)))=true
  ·rw[aC hr]at dI
   rw[aC hr]at apQ;rw[aC hr,aC hr];refine xY ?_;refine aP (Hd ((hg.sub NM).j8.sub (hqq.trans UY)) apv adG apQ (ab9 hgl) (by omega)) ?_;rintro _ m11⟨rfl,avt⟩;refine⟨i+1,⟨by omega,by rw[dI];exact avt.lB Zv⟩,by omega,?_⟩;exact Cr
  ·rw[if_neg hr]at dI
   rw[if_neg hr,if_neg hr];refine xN ?_;refine⟨i+1,⟨by omega,by rw[dI];exact(tD.cR apv adG).lB Zv⟩,by omega,?_⟩;exact Cr
 ·have h':=aj h
  obtain rfl:i=l.length:=by omega
  rw[aJ]at tj;subst hF5;exact⟨p9,q9,a2,c2,none,0,rfl,ak5,(NM.trans hb8).trans hq9,tj,Ga.nil _⟩
variable {mm p q:aD}{X:Jg}{qt:Int}{N:fw}{j k:Nat}
def As(l:List Ln):List Int:=l.flatMap λy=>[y.1,IntKind.i64.wrap y.2]
def qj(N:fw)(x:vF):fw×XL:=
 if sJ N.c N.n x.key=false then(N,⟨12,wa,[]⟩)
 else(N.nX ⟨x.id,0,As (um (gh N.s.L x.key).2)⟩,⟨0,wa,um (gh N.s.L x.key).2⟩)
theorem Kt(E:List En):∀(l:List En) (dE:List Ln),(l.foldl (tG E) dE).length<=dE.length+l.length
 |[],dE=>by simp
 |e::l,dE=>by
  have h1:=Kt E l (tG E dE e)
  have h2:(tG E dE e).length<=dE.length+1:=by
   unfold tG;split
   ·omega
   ·rw[ax];simp
  rw[gd,bd];omega
theorem TC(E:List En):(um E).length<=E.length:=by
 have:=Kt E (nY E) [];rw[zg]at this;simpa [um]using this
theorem Yi(l:List Ln):(As l).length=2*l.length:=by
 induction l with
 |nil=>rfl
 |cons y l ih=>simp only[As,dw,ax,bd,cW]at ih⊢;omega
theorem ahf{x y:Int}(h:m b=some (.cells (ic [x,y]).toArray 3)):Il m (.slice (some ⟨b,0,none⟩) 2 2) [x,y]:=
 .inr ⟨b,0,2,2,_,_,_,rfl,h,rfl,aW _,λj u hu=>by simpa [ic]using hu,by simp[ic,Value.oneCell']⟩
theorem Uv(hg:jZ q)(hs:aq mm [p,q])(h:y0 p q X qt N)(hT:NdT N)(hI:pO qt j k N)(hj:j<=1300)(hx:vC q x s)(Rp:N.B.o7.length<=1000):
  bi tP 38 [cx X.a,JD x s] mm λr m'=>NdR m' q X qt (qj N x).1 (qj N x).2 r:=by
 obtain⟨lv,pr,ps,pf,pb,pl,R,hn⟩:=h.op hs;have EM:=hx.k;refine A4 c38 Tryz.func38 ?_;refine xM hn.o ?_;refine xM hn.o ?_;obtain⟨j1,LR,bM⟩:=hn.MQ;refine aP (bi.frame bM (tN (k:=x.key) (n:=N.n) hg.j8 hT.c LR hn.r EM)) ?_;rintro _ m1⟨j2,⟨pr',rfl,bZ,jK⟩,dy⟩;have ml:=hn.Em dy bZ (cL.refl _) jK;obtain⟨dE,hF⟩:∃o,qj N x=o:=⟨_,rfl⟩;rw[hF];unfold qj at hF;by_cases h1:sJ N.c N.n x.key=true;rotate_left
 ·have h1:sJ N.c N.n x.key=false:=by simpa using h1
  rw[aC h1]at hF;rw[h1];refine xY ?_;subst hF;obtain⟨p1,eP,hn4⟩:=ml.cl;exact .uK (tD.cR eP hn4)
 rw[if_neg (by rw[h1];decide)]at hF;rw[h1];refine xN ?_;obtain⟨bl1,lv1,sv1,ak2⟩:=ml.sr;have hgA:=qo (λx hx=>(hI.gl x hx).arg) x.key;refine xM ml.o ?_;refine aP (Db ak2 (k:=x.key) (by have:=hI.ll;omega) (by have:=hgA.n;simp only at this;omega)) ?_;rintro _ m2⟨a2,c2,p2,rfl,eP,lD⟩;obtain⟨q2,rO,lE,kV⟩:=ml.up eP;generalize gh N.s.L x.key=was at*;obtain⟨wu,wE⟩:=was;simp only at hgA lD hF⊢;have hwn:wE.length<=1000:=hgA.n;refine aP (bi.frame kV.ba (Sk (u:=wu) (hg.j8.sub rO) (lD.ea.sub lE) hgA.e hwn)) ?_;rintro _ m3⟨q3,⟨v3,p3,rfl,eD,tX⟩,gC⟩;have adx:cL q2 q3:=eD.sub (by simp);have LQ:=kV.ba' gC adx;have EK:=rO.trans adx;have hvl:=TC wE;have QZ:=tX.el.ea.sub (eD.sub (a:=p3));generalize um wE=l at*;obtain⟨av,cv,rfl⟩:=QZ.shape;obtain⟨p5,iU,w6⟩:=LQ.cl;refine .mk (ι:=Nat×Value) (λi=>l.length-i.1) (λ⟨i,y⟩ mm=>i<=l.length/\∃pt,aq mm [pt,p5,q3]/\Io pt y (As (l.take i))) (λ⟨i,y⟩=>[(0,.c (cx X.a)),(3,.p 0 0),(4,.p 1 0),(7,.c (.v (.slice av l.length cv))),(8,.c (.v y)),(36,.c (.v (.slice av l.length cv))),(37,.c (i64 l.length)),(38,.c (i64 i))]) (λ_=>[(40,x.L s),(57,agk ⟨0,wa,[]⟩ none 0 none 0),(79,[.bG .u64 8 wu,.one (.slice a2 wE.length c2)])]) (0,.slice none 0 0) ⟨by omega,iI,iU.cA,Io.nil _⟩ ?_ ?_
 ·exact Cr
 rintro⟨i,y⟩ m4 ⟨hi,pt,k8,hy⟩;have htl:=Yi (l.take i);rw[aK]at htl;apply bI<;>intro h
 ·have h':=ah h
  have bH:i<l.length:=by omega
  obtain⟨b2,ol,c',hh,js⟩:=(QZ.sub (k8.sub (a:=q3))).real bH;injection hh with eK _ fN;subst eK;have js:=js i bH
  have dI:As (l.take (i+1))=As (l.take i)++[l[i].1,IntKind.i64.wrap l[i].2]:=by
   rw[au bH,As,dx];simp[As]
  generalize l[i]=z at*
  repeat refine xS ?_
  refine⟨[.one (.int .i64 z.1),.one (.int .u64 z.2)],⟨rfl,rfl,trivial⟩,rfl,by simp only[bK,aA];exact js,?_⟩;refine .mk _ (IN) ?_;rintro _ _⟨b7,Te,rfl,rfl⟩;refine .mk _ (zQ (i:=1) (news:=[z.1,IntKind.i64.wrap z.2]) (k8.new Te _) rfl hy (ahf (aD.bg ..)).ia (by simp;omega)) ?_;rintro _ m'⟨y',pt',rfl,zv,I7⟩;have nr:aq _ [pt',p5,q3]:=zv.dV 0;refine⟨(i+1,y'),⟨by omega,pt',nr,by rw[dI];exact I7⟩,by simp only;omega,?_⟩;exact Cr
 ·have h':=aj h
  obtain rfl:i=l.length:=by omega
  rw[aJ]at hy htl;obtain⟨q5,ha,hb,zv⟩:=aq.sK (k8.ir [0,2,1]);obtain⟨je,ct,rfl⟩:=hy.il.ia.shape;refine aP (Hc (x:=⟨x.id,0,As l⟩) (s:=(je,ct)) (zv.ir [1,0]) (w6.sub hb) (hy.il.ia.sub ha) (by simp only;omega) Rp rfl) ?_;rintro _ m5⟨rfl,hL5⟩;obtain⟨p6,q6,nr,Zw,I9⟩:=hL5.ex;subst hF;exact⟨p6,q6,none,0,av,cv,rfl,nr,EK.trans (hb.trans Zw),I9,QZ.sub (hb.trans Zw)⟩
variable {mm p q:aD}{X:Jg}{qt:Int}{N:fw}{j k:Nat}
def Au(bQ:Int)(a:fw×List kl)(s:kl):fw×List kl:=
 (if (kX s bQ).2 then a.1.CR (kX s bQ).1 else a.1,if 0<(kX s bQ).1.round then a.2++[(kX s bQ).1]else a.2)
def fw.at(N:fw)(bQ:Int):fw:={N with bQ:=bQ}
def lO(N:fw):fw×Int:=
 if 549755813888<=N.bQ then(N,7)
 else({(N.l.foldl (Au (N.bQ+1)) (N.at (N.bQ+1),[])).1 with l:=(N.l.foldl (Au (N.bQ+1)) (N.at (N.bQ+1),[])).2},0)
theorem rp(N:fw)(x:kl):y7 N (N.CR x) 1:=by
 unfold fw.CR;split
 ·exact⟨rfl,GB N _⟩
 ·exact⟨rfl,by omega⟩
theorem af3(bQ:Int)(a:fw×List kl)(s:kl):y7 a.1 (Au bQ a s).1 1:=by
 unfold Au;split
 ·exact rp _ _
 ·exact⟨rfl,Nat.le_succ _⟩
theorem vM(bQ:Int):∀(l:List kl) (a:fw×List kl),y7 a.1 (l.foldl (Au bQ) a).1 l.length
 |[],a=>⟨rfl,by simp⟩
 |s::l,a=>by
  have:=(af3 bQ a s).trans (vM bQ l (Au bQ a s));rw[uG]at this;exact this
theorem Wi(bQ:Int):∀(l:List kl) (a:fw×List kl),(l.foldl (Au bQ) a).2.length<=a.2.length+l.length
 |[],a=>by simp
 |s::l,a=>by
  have h1:=Wi bQ l (Au bQ a s)
  have h2:(Au bQ a s).2.length<=a.2.length+1:=by
   unfold Au;simp only;split
   ·rw[ax];simp
   ·omega
  rw[gd,bd];omega
section
variable {lv:Value}{pr ps pf pb pl:aD}{R:List AM}
theorem nS.aox{m':aD}{N':fw}{Qt:Value}(h:nS mm q X qt N lv pr ps pf pb pl R)(hm:m'=mm.set X.a (iq X N' Qt))(hc:N'.c=N.c)(hs:N'.s=N.s)(hA:N'.A=N.A)(hnb:N'.nb=N.nb)(NQ:N'.ns=N.ns)(hB:N'.B=N.B)(hl:J8 pl q Qt N'.l R):nS m' q X qt N' Qt pr ps pf pb pl R:=by
 have h1:=h.sp.set (aG ..) (iq X N' Qt);rw[cJ]at h1;subst hm;exact⟨h1,hc▸h.r,hs▸h.s,by rw[hA,hnb,NQ];exact h.f,hB▸h.b,hl⟩
theorem nS.ai7{jm pt:aD}(h:nS jm q X qt N lv pr ps pf pb pl R)(hs:aq mm [pt,jm]):aq mm [q,blk1 X.a (iq X N lv),pr,ps,pf,pb,pl,pt]:=
 (aq.tQ (hs.ir [1,0]) h.sp).ir [6,0,1,2,3,4,5,7]
theorem nS.ama{jm pt q' m':aD}(h:nS jm q X qt N lv pr ps pf pb pl R)(hs:aq m' [q',blk1 X.a (iq X N lv),pr,ps,pf,pb,pl,pt])(hq:cL q q'):∃jm',aq m' [pt,jm']/\nS jm' q' X qt N lv pr ps pf pb pl R:=by
 obtain⟨h2,h3⟩:=aq.k9 [q',blk1 X.a (iq X N lv),pr,ps,pf,pb,pl] (l:=[pt]) hs;exact⟨_,h2.ir [1,0],h3.ir [1,2,3,4,5,6,0],h.r,h.s.sub hq,h.f,h.b.grow hq,h.l.sub hq⟩
end
theorem Ut(hS:cK q)(hs:aq mm [p,q])(h:y0 p q X qt N)(hI:pO qt j k N)(hj:j<=1300)(ho:N.B.dE.length+N.l.length<500)(apK:0<=N.bQ):
  bi tP 39 [cx X.a] mm λr m'=>r=[i64 (lO N).2]/\tD m' q X qt (lO N).1:=by
 obtain⟨lv,pr,ps,pf,pb,pl,R,hn⟩:=h.op hs;obtain⟨dE,hF⟩:∃o,lO N=o:=⟨_,rfl⟩;rw[hF];unfold lO at hF;refine A4 c39 Tryz.func39 ?_;refine xM hn.o ?_;apply bI<;>intro h1
 ·have h1:549755813888<=N.bQ:=by simpa using h1
  rw[aC h1]at hF;subst hF;exact⟨rfl,tD.cR hs h⟩
 have h1:¬ 549755813888<=N.bQ:=by simpa using h1
 rw[if_neg h1]at hF;refine xM hn.o ?_;conv=>whnf
 have ew:IntKind.i64.wrap (N.bQ+1)=N.bQ+1:=wi;rw[ew];refine⟨_,_,_,hn.o,⟨by simp,by simp⟩,?_⟩;have ml:nS _ q X qt (N.at (N.bQ+1)) lv pr ps pf pb pl R:=hn.aox (N':=N.at (N.bQ+1)) rfl rfl rfl rfl rfl rfl rfl hn.l;refine⟨_,aF ml.o rfl,ml.one,?_⟩;obtain⟨av,cv,elv⟩:=hn.l.o.el.shape;have hRl:R.length=N.l.length:=by rw[<-hn.l.e,aH]
 subst elv;refine .mk (ι:=Nat×Value) (λi=>R.length-i.1) (λ⟨i,y⟩ mm=>i<=R.length/\∃pt jm q' S4 RL,aq mm [pt,jm]/\cL q q'/\nS jm q' X qt ((N.l.take i).foldl (Au (N.bQ+1)) (N.at (N.bQ+1),[])).1 (.slice av R.length cv) pr ps pf S4 pl R/\J8 pt q' y ((N.l.take i).foldl (Au (N.bQ+1)) (N.at (N.bQ+1),[])).2 RL) (λ⟨i,y⟩=>[(0,.c (cx X.a)),(3,.c (.v y)),(23,.c (.v (.slice av R.length cv))),(24,.c (i64 R.length)),(25,.c (i64 i))]) (λ_=>[]) (0,.slice none 0 0) ⟨by omega,iI,_,q,pb,[],(aq.one _).cA,cL.refl _,ml,Gw.nil _,rfl,by simp⟩ ?_ ?_
 ·exact Cr
 rintro⟨i,y⟩ m2 ⟨hi,pt,jm,q2,pb2,RL,bZ,rO,kV,hy⟩;have HW:=vM (N.bQ+1) (N.l.take i) (N.at (N.bQ+1),[]);have Fc:=Wi (N.bQ+1) (N.l.take i) (N.at (N.bQ+1),[]);simp only[cW]at Fc;have Xj:=HW.l;rw[aK]at Xj Fc;apply bI<;>intro h
 ·have h':=ah h
  have bH:i<R.length:=by omega
  obtain⟨b2,ol,c',hh,js⟩:=(kV.l.o.el.ea.sub ((kV.sp.sub).trans (bZ.sub))).real bH;injection hh with eK _ fN;subst eK;have js:=js i bH;have nT:=kV.l.a R[i] (aO bH)
  have xz:R[i].1=N.l[i]'(by omega):=by
   have:=be (λl:List kl=>l[i]?) hn.l.e;simp only[cj,az bH,az (show i<N.l.length by omega),dZ,aM]at this;exact this
  have dI:(N.l.take (i+1)).foldl (Au (N.bQ+1)) (N.at (N.bQ+1),[])=Au (N.bQ+1) ((N.l.take i).foldl (Au (N.bQ+1)) (N.at (N.bQ+1),[])) R[i].1:=by
   rw[xz,au (by omega),iT];rfl
  generalize (N.l.take i).foldl (Au (N.bQ+1)) (N.at (N.bQ+1),[])=Z at*;obtain⟨N2,left⟩:=Z;simp only at kV hy HW Xj Fc dI;generalize R[i]=rs at*;obtain⟨x,s⟩:=rs;simp only at nT dI;have JN:N2.bQ=N.bQ+1:=by rw[HW.e];rfl
  repeat refine xS ?_
  refine⟨x.L s,⟨rfl,rfl,rfl,rfl,rfl,rfl,rfl,rfl,rfl,rfl,rfl,trivial⟩,rfl,by simp only[bK,aA];exact js,?_⟩;refine xM (bZ.sub (a:=jm) (by simp) _ _ kV.o) ?_;rw[JN];refine aP (bi.frame (kV.ai7 bZ) (Yk (bQ:=N.bQ+1) nT)) ?_;rintro _ m3⟨q3,⟨s',rfl,alM,e3⟩,dy⟩;conv=>whnf
  rw[e3]at dy;obtain⟨jm3,eP,LQ⟩:=kV.ama dy (cL.refl _);have hsL:N2.s=N.s:=by rw[HW.e];rfl
  rw[show Au (N.bQ+1) (N2,left) x=(if (kX x (N.bQ+1)).2 then N2.CR (kX x (N.bQ+1)).1 else N2,if 0<(kX x (N.bQ+1)).1.round then left++[(kX x (N.bQ+1)).1]else left) from rfl]at dI;generalize kX x (N.bQ+1)=tt' at*;obtain⟨t,ag⟩:=tt';simp only at alM dI⊢;have hRL:RL.length=left.length:=by rw[<-hy.e,aH]
  refine⟨λh=>?a1,λh=>?a2⟩
  case' a1=>
   have hr:0<t.round:=by simpa using h
   rw[aC hr]at dI;refine .mk _ (AL (t:=xj) (e:=(t,s')) rfl) ?_;rintro _ _⟨b7,Te,rfl,rfl⟩;refine .mk _ (Az (t:=xj) (i:=0) eP rfl Te hy.o (by omega)) ?_;rintro _ m4⟨y',pt',rfl,eD,hyo⟩;have eD:aq m4 [pt',jm3]:=eD
   have hy5:J8 pt' q2 y' (left++[t]) (RL++[(t,s')]):=⟨hyo,by rw[bD,hy.e];rfl,λr hr=>by
    rcases aR.1 hr with hr|hr
    ·exact hy.a r hr
    ·rw[aL.1 hr];exact alM⟩
  case' a2=>
   have hr:¬ 0<t.round:=by simpa using h
   rw[if_neg hr]at dI;have eD:=eP;have hy5:=hy
  all_goals
   apply bI<;>intro h
   ·have hag:ag=true:=by simpa using h
    rw[aC hag]at dI;refine aP (bi.frame (eD.ir [1,0]) (A6 (hS.sub rO) LQ alM (by rw[hsL];exact hI.gl) (by rw[hsL];have:=hI.ll;omega) (by have:(N.at (N.bQ+1)).B.dE.length=N.B.dE.length:=rfl;omega))) ?_;rintro _ m6⟨jm6,⟨rfl,hB⟩,gC⟩;obtain⟨pb6,q6,Zw,I9⟩:=hB.ex;refine⟨(i+1,_),⟨by omega,_,jm6,q6,pb6,_,gC.ir [1,0],rO.trans Zw,by rw[dI];exact I9,by rw[dI];exact hy5.sub Zw⟩,by simp only;omega,?_⟩;exact Cr
   ·have hag:ag=false:=by simpa using h
    rw[hag,if_neg (by decide)]at dI;refine⟨(i+1,_),⟨by omega,_,jm3,q2,pb2,_,eD,rO,by rw[dI];exact LQ,by rw[dI];exact hy5⟩,by simp only;omega,?_⟩;exact Cr
 ·have h':=aj h
  obtain rfl:i=R.length:=by omega
  rw[hRl,aJ]at kV hy
  have lE:aq m2 [blk1 X.a (iq X (N.l.foldl (Au (N.bQ+1)) (N.at (N.bQ+1),[])).1 (.slice av N.l.length cv)),pr,ps,pf,pb2,pt,q2]:=by
   have:=(kV.ai7 bZ).ir [1,2,3,4,5,7,0];exact this
  obtain⟨ya,yc,rfl⟩:=hy.o.el.shape;refine⟨_,_,_,bZ.sub (a:=jm) (by simp) _ _ kV.o,⟨by simp,by simp⟩,?_⟩;subst hF;have NP:=kV.o;generalize (N.l.foldl (Au (N.bQ+1)) (N.at (N.bQ+1),[]))=Z at*;obtain⟨N2,left⟩:=Z;simp only at kV hy lE⊢;have UZ:=lE.set (aG ..) (iq X {N2 with l:=left} (.slice ya RL.length yc));rw[cJ]at UZ;refine⟨by trivial,tD.of (q':=q2) (lv:=.slice ya RL.length yc) (pr:=pr) (ps:=ps) (pf:=pf) (pb:=pb2) (pl:=pt) (R:=RL) ⟨UZ,kV.r,kV.s,kV.f,kV.b,hy⟩ rO⟩
variable {mm p q:aD}{X:Jg}{qt:Int}{N:fw}{j k:Nat}
def qs(N:fw)(d:Int):kl×Int:=uD (N.dO+1) N.n (lV (kw N.c N.n) d).1 (lV (ng N.c N.n (lV (kw N.c N.n) d).1) (d/65536)).1 N.w N.bQ
def fw.add(N:fw)(x:kl):fw:={N with dO:=N.dO+1,l:=N.l++[x]}
def oC(N:fw)(d:Int):fw×Int:=
 if (lV (kw N.c N.n) d).2≠0 then(N,(lV (kw N.c N.n) d).2)
 else if N.l.any (λs=>decide (s.jV=(lV (kw N.c N.n) d).1))then(N,10)
 else if (qs N d).2≠0 then(N,(qs N d).2)
 else((N.add (qs N d).1).CR (qs N d).1,0)
theorem VF{e:AM}(hb:m b=some (.cells #[.int .i64 n] 3)):eN tP 87 [Sev e,cx b] m [bR (decide (e.1.jV=n))]:=by
 refine ub Tryz.func87 ?_;refine xM hb ?_;exact⟨by rw[<-qO],rfl⟩
section
variable {lv:Value}{pr ps pf pb pl:aD}{R:List AM}
theorem nS.ai1{m' j' pr' q2:aD}(h:nS mm q X qt N lv pr ps pf pb pl R)(hs:aq m' [j',blk1 X.a (iq X N lv),ps,pf,pb,pl])(h1:aq j' [pr',q2,q])(h3:jY pr' X.br N.c):∃q',cL q q'/\cL q2 q'/\nS m' q' X qt N lv pr' ps pf pb pl R:=by
 obtain⟨q8,ha,hb,eP⟩:=aq.sK (h1.ir [1,2,0]);exact⟨q8,hb,ha,h.Em hs (eP.ir [1,0]) hb h3⟩
theorem nS.oK{b:Nat}{o:Obj}(h:nS mm q X qt N lv pr ps pf pb pl R)(hb:mm b=none):∃q',cL q q'/\q' b=some o/\nS (mm.set b o) q' X qt N lv pr ps pf pb pl R:=by
 have h1:aq (mm.set b o) [blk1 b o,mm]:=(aq.one mm).new hb o;obtain⟨q',h2,h3,h4⟩:=h.up h1;exact⟨q',h2,h3 _ _ (aG ..),h4⟩
end
theorem aar(i a b p:Int)(w:Bk)(bQ:Int):(uD i a b p w bQ).1.pl=[]:=by
 unfold uD
 split<;>rfl
variable{d:Int}
theorem Uy(hS:cK q)(hs:aq mm [p,q])(h:y0 p q X qt N)(hT:NdT N)(hI:pO qt j k N)(hj:j<=1300)(hd:0<=d/\d<18446744073709551616)(ho:N.B.dE.length<500)(AG:0<=N.dO/\N.dO<=1000000)(hll:N.l.length<=500):
  bi tP 40 [cx X.a,u64 d] mm λr m'=>r=[i64 (oC N d).2]/\tD m' q X qt (oC N d).1:=by
 obtain⟨lv,pr,ps,pf,pb,pl,R,hn⟩:=h.op hs;obtain⟨dE,hF⟩:∃o,oC N d=o:=⟨_,rfl⟩;rw[hF];unfold oC at hF;have hDB:qs N d=uD (N.dO+1) N.n (lV (kw N.c N.n) d).1 (lV (ng N.c N.n (lV (kw N.c N.n) d).1) (d/65536)).1 N.w N.bQ:=rfl;generalize qs N d=DB at*;refine A4 c40 Tryz.func40 ?_;refine xM hn.o ?_;refine xM hn.o ?_;obtain⟨j1,LR,bM⟩:=hn.MQ;refine aP (bi.frame bM (Ud (a:=N.n) hS hT.c LR hn.r)) ?_;rintro _ m1⟨j2,⟨v2,pr2,q2,rfl,bZ,jK,lD⟩,dy⟩;obtain⟨q3,EK,tX,ml⟩:=hn.ai1 dy bZ jK
 have CU:(kw N.c N.n).length<=8:=by
  have h1:=Eu N.c N.n N.c.jv.toNat;have h2:=(Rc.lj.1 hT.c).1
  show(pX _ _ _).length<=8
  omega
 have tX:=lD.il.ia.sub tX;have QZ:=tX.sub ml.gM;generalize kw N.c N.n=P at*;refine bt (K2 (d:=d) QZ (by omega) hd) ?_;generalize lV P d=pk at*;obtain⟨jV,e⟩:=pk;simp only at hF hDB⊢;intro b5 mo;refine⟨_,_,_,aD.bg ..,⟨Nat.one_pos,by simp⟩,?_⟩;rw[aD.set_set];obtain⟨q4,Zx,OV,kV⟩:=ml.oK (o:=.cells #[.int .i64 jV] 3) mo;have NO:=EK.trans Zx;apply bI<;>intro h1
 ·have h1:e≠0:=by simpa using h1
  rw[aC h1]at hF;subst hF;obtain⟨p5,eD,w6⟩:=kV.cl;exact⟨rfl,(tD.cR eD w6).lB NO⟩
 have h1:e=0:=by simpa using h1
 rw[if_neg (by simp[h1])]at hF;refine⟨_,aF kV.o rfl,kV.one,?_⟩;refine .mk _ (df (cs:=[.pointer (some ⟨b5,0,none⟩)]) (by simp[Value.oneCell'])) ?_;rintro _ _⟨rfl,rfl⟩;have aqx:=kV.gM _ _ OV;have hRl:R.length=N.l.length:=by rw[<-kV.l.e,aH]
 refine bt (Ea (p:=λr=>decide (r.1.jV=jV)) (kV.l.o.el.ea.sub (kV.sp.sub)) (λr _=>VF aqx) (by omega)) ?_;have H3:R.any (λr=>decide (r.1.jV=jV))=N.l.any (λs=>decide (s.jV=jV)):=by rw[<-kV.l.e,List.any_map];rfl
 rw[H3];apply bI<;>intro h2
 ·rw[aC h2]at hF
  subst hF;obtain⟨p5,eD,w6⟩:=kV.cl;exact⟨rfl,(tD.cR eD w6).lB NO⟩
 rw[if_neg (by rw[h2];decide)]at hF;refine xM kV.o ?_;refine xM kV.o ?_;refine xM aqx ?_;obtain⟨j6,hj6,gC⟩:=kV.MQ;refine aP (bi.frame gC (Ej (a:=N.n) (n:=jV) (hS.sub NO) hT.c hj6 kV.r)) ?_;rintro _ m7⟨j7,⟨v7,pr7,q7,rfl,iU,hr7,hv7⟩,k8⟩;obtain⟨q8,Zv,hv8,JO⟩:=kV.ai1 k8 iU hr7;have W9:=PD N.c N.n jV;have hv8:=(hv7.il.ia.sub hv8).sub JO.gM;generalize ng N.c N.n jV=S at*;have avJ:oV .u64 d 16=d/65536:=kU d (by decide);rw[avJ];refine bt (K2 (d:=d/65536) hv8 (by omega) (by omega)) ?_;generalize lV S (d/65536)=pa at*;obtain⟨part,pe⟩:=pa;simp only at hDB⊢;have hb8:=JO.gM _ _ (Zv _ _ OV);have ew:IntKind.i64.wrap (N.dO+1)=N.dO+1:=wi;refine xM JO.o ?_;refine xM JO.o ?_;refine xM hb8 ?_;refine⟨N.w.L,⟨rfl,rfl,rfl,rfl,trivial⟩,rfl,⟨_,_,_,JO.o,λj u hu=>?_⟩,?_⟩
 ·match j,hu with
  |0,hu=>exact hu
  |1,hu=>exact hu
  |2,hu=>exact hu
  |3,hu=>exact hu
  |j+4,hu=>simp[LB.cz,eB.cells]at hu
 refine xM JO.o ?_;conv=>whnf
 rw[ew];refine bt (VT) ?_;conv=>whnf
 rw[show uD (N.dO+1) N.n jV part N.w N.bQ=DB from hDB.symm]
 have hDa:qZ q8 DB.1 (none,0):=by
  have e:DB.1.pl=[]:=by rw[hDB];exact aar ..
  exact⟨by rw[e];exact(Io.nil _).il.ia,by rw[e];simp⟩
 obtain⟨x,e2⟩:=DB;simp only at hF hDa⊢;apply bI<;>intro h3
 ·have h3:e2≠0:=by simpa using h3
  rw[aC h3]at hF;subst hF;obtain⟨p5,eD,w6⟩:=JO.cl;exact⟨rfl,(tD.cR eD w6).lB (NO.trans Zv)⟩
 have h3:e2=0:=by simpa using h3
 rw[if_neg (by simp[h3])]at hF;refine xM JO.o ?_;conv=>whnf
 rw[ew];refine⟨_,_,_,JO.o,⟨by simp,by simp⟩,?_⟩;have tj:nS _ q8 X qt {N with dO:=N.dO+1} lv pr7 ps pf pb pl R:=JO.aox (N':={N with dO:=N.dO+1}) rfl rfl rfl rfl rfl rfl rfl JO.l;refine⟨_,aF tj.o rfl,tj.one,?_⟩;refine .mk _ (AL (t:=xj) (e:=(x,(none,0))) rfl) ?_;rintro _ _⟨b7,Te,rfl,rfl⟩;refine⟨yt tj.o (aD.bT _ Te),?_⟩;refine .mk _ (Az (t:=xj) (i:=5) tj.sp rfl Te tj.l.o (by omega)) ?_;rintro _ m9⟨y',pt',rfl,eD,hyo⟩;have eD:aq m9 [blk1 X.a (iq X {N with dO:=N.dO+1} lv),pr7,ps,pf,pb,pt',q8]:=eD;have gC:=eD.set (aG ..) (iq X (N.add x) y');rw[cJ]at gC
 have hyl:J8 pt' q8 y' (N.l++[x]) (R++[(x,(none,0))]):=⟨hyo,by rw[bD,tj.l.e];rfl,λr hr=>by
  rcases aR.1 hr with hr|hr
  ·exact tj.l.a r hr
  ·rw[aL.1 hr];exact hDa⟩
 have hob:m9 X.a=some (iq X {N with dO:=N.dO+1} lv):=eD.get (a:=blk1 X.a _) (by simp) (aG ..);have hy1:y'.oneCell'=true:=by obtain⟨_,_,e⟩:=hyo.el.shape;rw[e];rfl
 have NS:nS _ q8 X qt (N.add x) y' pr7 ps pf pb pt' (R++[(x,(none,0))]):=⟨gC,tj.r,tj.s,tj.f,tj.b,hyl⟩;refine⟨_,_,_,hob,⟨by simp,by simp⟩,?_⟩;refine aP (A6 (hS.sub (NO.trans Zv)) NS hDa hI.gl (show(N.add x).s.L.length<=1300 from bq hI.ll hj) ho) ?_;rintro _ m10⟨rfl,hB⟩;subst hF;exact⟨rfl,hB.l.lB (NO.trans Zv)⟩
variable {mm p q:aD}{X:Jg}{qt:Int}{N:fw}{j k:Nat}
def G8(N:fw)(y:gX):Bool:=
 if y.kind=7 then sJ N.c N.n (NF y.ca)&&sJ N.c y.fr (NF y.ca)else l4 N.c N.n y.part&&l4 N.c y.fr y.part
variable{y:gX}
theorem Qi(hS:cK q)(hs:aq mm [p,q])(h:y0 p q X qt N)(hT:NdT N)(hy:gy q y s)(hr:dR y=true):
  bi tP 90 [cx X.a,mT y s] mm λr m'=>r=[bR (G8 N y)]/\tD m' q X qt N:=by
 obtain⟨lv,pr,ps,pf,pb,pl,R,hn⟩:=h.op hs;have hR:=nD hr;have hp:=hR.p;unfold G8;refine A4 c90 Tryz.func90 ?_;apply bI<;>intro h1
 ·have h1:y.kind=7:=by simpa using h1
  rw[aC h1]
  have Vf:∃x,y.ca=[x]:=by
   have:=hR.ok;unfold Vo at this;rw[if_neg (by omega),if_neg (by omega),if_neg (by omega),if_neg (by omega),aC h1]at this;simp only[aB,bA]at this;exact I3.1 this.1.1
  obtain⟨x,hx⟩:=Vf;have ZB:NF y.ca=x.1:=by rw[hx];rfl
  rw[ZB];have hc:=(hy.sub hn.gM).ca;have hlen:y.ca.length=1:=by rw[hx];rfl
  have EM:x.1.size<=1000000:=by have:=lQ hR.ca x (by rw[hx];simp);omega
  obtain⟨rs,hR1,hK⟩:=hc;have hrl:=hK.len;rw[hlen]at hrl hR1;obtain⟨b2,o2,c2,hh,hg⟩:=hR1.real (i:=0) (by omega);have hkk:=(hK.je 0 (by omega) (by omega)).k;have hg:=fZ (j:=0) (hg 0 (by omega)) rfl;have e0:y.ca[0]'(by omega)=x:=by simp[hx]
  rw[e0]at hkk;generalize rs[0]'(by omega)=r at*;injection hh with eK _ fN;conv=>whnf
  rw[hlen,eK]
  repeat refine xS ?_
  refine⟨_,by simpa [bK]using hg,rfl,?_⟩;refine xM hn.o ?_;refine xM hn.o ?_;conv=>whnf
  rw[hkk];obtain⟨j1,LR,bM⟩:=hn.MQ;refine aP (bi.frame bM (tN (k:=x.1) (n:=N.n) hS hT.c LR hn.r EM)) ?_;rintro _ m1⟨j2,⟨pr',rfl,bZ,jK⟩,dy⟩
  try refine⟨λ_ h=>(by cases h),?_⟩
  have ml:=hn.Em dy bZ (cL.refl _) jK;apply bI<;>intro h2;rotate_left
  ·obtain⟨p5,eD,w6⟩:=ml.cl
   exact⟨by rw[h2];rfl,tD.cR eD w6⟩
  rw[h2,bj];refine xM ml.o ?_;obtain⟨j6,hj6,gC⟩:=ml.MQ;refine aP (bi.frame gC (tN (k:=x.1) (n:=y.fr) hS hT.c hj6 ml.r EM)) ?_;rintro _ m7⟨j7,⟨pr7,rfl,iU,hr7⟩,k8⟩
  try refine⟨λ_ h=>(by cases h),?_⟩
  have JO:=ml.Em k8 iU (cL.refl _) hr7;obtain⟨p5,eD,w6⟩:=JO.cl;exact⟨rfl,tD.cR eD w6⟩
 ·have h1:¬y.kind=7:=by simpa using h1
  rw[if_neg h1];refine xM hn.o ?_;refine xM hn.o ?_;obtain⟨j1,LR,bM⟩:=hn.MQ;refine aP (bi.frame bM (Bf (part:=y.part) (n:=N.n) hS hT.c LR hn.r (by omega))) ?_;rintro _ m1⟨j2,⟨pr',rfl,bZ,jK,_⟩,dy⟩
  try refine⟨λ_ h=>(by cases h),?_⟩
  have ml:=hn.Em dy bZ (cL.refl _) jK;apply bI<;>intro h2;rotate_left
  ·obtain⟨p5,eD,w6⟩:=ml.cl
   exact⟨by rw[h2];rfl,tD.cR eD w6⟩
  rw[h2,bj];refine xM ml.o ?_;obtain⟨j6,hj6,gC⟩:=ml.MQ;refine aP (bi.frame gC (Bf (part:=y.part) (n:=y.fr) hS hT.c hj6 ml.r (by omega))) ?_;rintro _ m7⟨j7,⟨pr7,rfl,iU,hr7,_⟩,k8⟩
  try refine⟨λ_ h=>(by cases h),?_⟩
  have JO:=ml.Em k8 iU (cL.refl _) hr7;obtain⟨p5,eD,w6⟩:=JO.cl;exact⟨rfl,tD.cR eD w6⟩
variable {mm p q:aD}{X:Jg}{qt:Int}{N:fw}{j k:Nat}
def qc(qt:Int)(N:fw)(y:gX):fw×Int:=
 if (tC N.s.L y).2.2≠0 then(N,(tC N.s.L y).2.2)
 else if (N.fT qt (tC N.s.L y).2.1).2≠0 then N.fT qt (tC N.s.L y).2.1
 else((N.fT qt (tC N.s.L y).2.1).1.send (tC N.s.L y).1,0)
structure V5(T C:List Kd):Prop where
 a:∀x∈T,jg x
 (k:∀x∈T,∃c∈C,x.1=c.1)
 l:T.length<=C.length
theorem C8{L:List Kd}(hL:∀x∈L,jg x)(hC:∀x∈C,jg x):V5 (gn L C).2 C:=by
 have key:∀(C D:List Kd) (s:List Kd×List Kd),(∀x∈C,jg x)->(∀x∈C,x∈D)->(∀x∈s.1,jg x)->(∀x∈s.2,jg x)->(∀x∈s.2,∃c∈D,x.1=c.1)->(∀x∈(C.foldl ou s).2,jg x)/\(∀x∈(C.foldl ou s).2,∃c∈D,x.1=c.1)/\(C.foldl ou s).2.length<=s.2.length+C.length:=λC=>by
  induction C with
  |nil=>intro D s _ _ _ h1 h2;exact⟨h1,h2,by simp⟩
  |cons x C ih=>
   intro D s hC hD h1 h2 h3;have hx:=hC x (by simp);by_cases ht:KC (gh s.1 x.1) (nh (gh s.1 x.1) x.2)
   ·have e:ou s x=(iz s.1 x.1 (nh (gh s.1 x.1) x.2).1,iz s.2 x.1 (nh (gh s.1 x.1) x.2).1):=by unfold ou;rw[aC ht]
    have hn:=xH (k:=x.1) (x:=gh s.1 x.1) (y:=x.2) (qo h1 x.1) hx ht.1
    obtain⟨g1,g2,g3⟩:=ih D (ou s x) (λy hy=>hC y (by simp[hy])) (λy hy=>hD y (by simp[hy]))
     (by rw[e];intro y hy;rcases uM hy with hy|rfl;exact h1 y hy;exact hn)
     (by rw[e];intro y hy;rcases uM hy with hy|rfl;exact h2 y hy;exact hn)
     (by rw[e];intro y hy;rcases uM hy with hy|rfl;exact h3 y hy;exact⟨x,hD x (by simp),rfl⟩)
    refine⟨g1,g2,?_⟩;have:=C4 s.2 x.1 (nh (gh s.1 x.1) x.2).1;rw[gd,bd];rw[e]at g3⊢;simp only at g3;omega
   ·have e:ou s x=s:=by unfold ou;rw[if_neg ht]
    obtain⟨g1,g2,g3⟩:=ih D s (λy hy=>hC y (by simp[hy])) (λy hy=>hD y (by simp[hy])) h1 h2 h3;rw[gd,e];exact⟨g1,g2,by rw[bd];omega⟩
 obtain⟨g1,g2,g3⟩:=key C C (L,[]) hC (λ_ h=>h) hL (by simp) (by simp);exact⟨g1,g2,by have:=g3;simp only[cW,cD]at this;exact this⟩
theorem Sd{t:List Nat}(h:∀x∈t,x<256)(l:List Int):∀d∈Tr.D8 t l,∀n∈d,n<256:=λd hd=>by
 obtain⟨x,_,rfl⟩:=aV.1 hd;exact Tr.Ot h _
theorem QG(l:List Int):(Tr.fV l).length<=4*l.length:=by
 have:=Tr.rN l;omega
theorem rV:∀n∈fX,n<256:=by intro n hn;simp[fX]at hn;omega
theorem XJ{L:List Kd}(hL:∀x∈L,jg x)(hy:dR y=true)(Vf:∀x∈y.ca,jg x)(hl:L.length+y.ca.length<=1333)(he:(tC L y).2.2=0):IY (tC L y).1/\V5 (tC L y).2.1 y.ca:=by
 have hR:=nD hy;have hT:=xI L y.part;have hn:V5 [] y.ca:=⟨by simp,by simp,by simp⟩;have Fb:=QG y.pl;have U6:=QG [0];have hpn:=hR.pn;unfold tC at he⊢
 split at he
 ·cases he
 rename_i h1;rw[if_neg h1]
 split at he
 ·cases he
 rename_i h2;rw[if_neg h2]
 split at he
 ·rename_i h3
  rw[aC h3]
  split at he
  ·rename_i h4;exact absurd he h4
  rename_i h4;rw[if_neg h4];have h4:jC L y.ca=0:=by simpa using h4
  have wo:=(BX h4).2.2;have Q8:=Ey hL Vf;have iH:=IK wo y.part y.pl;have hg:∀c∈pI (gn L y.ca).1 y.part y.pl,jg c/\c.1.size<=20:=λc hc=>⟨Q8.a c (iH.subset hc),lQ wo c (iH.subset hc)⟩;have ZA:=bq iH.length_le Q8.l;refine⟨⟨⟨λc hc=>(hg c hc).1,λc hc=>by have:=(hg c hc).2;omega,λc hc=>(hg c hc).1.n,by show(pI _ _ _).length<=_;omega,by show y.pl.length<=_;omega,by show([]:List (List Nat)).length<=_;simp⟩,⟨rV,by show ∀d∈([]:List (List Nat)),_;simp⟩,?_⟩,C8 hL Vf⟩;have h5:=B2 (L:=pI (gn L y.ca).1 y.part y.pl) λx hx=>WU (hg x hx).1.u (hg x hx).2
  show(List.map nJ (pI _ _ _)).flatten.length<=_
  omega
 ·rename_i h3
  rw[if_neg h3];have nn:∀c∈([]:List Kd),jg c/\c.1.size<=1000000/\c.2.2.length<=1000:=by simp
  split
  ·split
   ·exact⟨⟨⟨by simp,by simp,by simp,by simp,by simp,by simp⟩,⟨rV,by simp⟩,by simp⟩,hn⟩
   ·exact⟨⟨⟨by simp,by simp,by simp,by simp,by simp,by show(Tr.D8 _ _).length<=_;rw[Tr.D8,aH];simp at U6⊢;omega⟩,⟨rV,Sd hT.xA _⟩,by simp⟩,hn⟩
  ·exact⟨⟨⟨by simp,by simp,by simp,by simp,by show y.pl.length<=_;omega,by show(Tr.D8 _ _).length<=_;rw[Tr.D8,aH];omega⟩,⟨rV,Sd hT.xA _⟩,by simp⟩,hn⟩
theorem KT(qt:Int):∀(L:List Kd) (N:fw),(N.fT qt L).1.B=N.B
 |[],N=>rfl
 |x::L,N=>by
  unfold fw.fT;split
  ·exact KT qt L (N.put x)
  ·rfl
theorem Nn(hg:jZ q)(hs:aq mm [p,q])(h:y0 p q X qt N)(hI:pO qt j k N)(hj:j+y.ca.length<=1300)(hk:k<=500)(hy:gy q y s)(ho:qx y)(hr:dR y=true)(Fc:N.B.dE.length<500):
  bi tP 92 [cx X.a,mT y s] mm λr m'=>r=[i64 (qc qt N y).2]/\tD m' q X qt (qc qt N y).1:=by
 obtain⟨lv,pr,ps,pf,pb,pl,R,hn⟩:=h.op hs;obtain⟨bl,lv2,sv,AF⟩:=hn.sr;have hll:=hI.ll;have hA:∀x∈N.s.L,jg x:=λx hx=>(hI.gl x hx).arg;obtain⟨dE,hF⟩:∃o,qc qt N y=o:=⟨_,rfl⟩;rw[hF];unfold qc at hF;have ez:=XJ (L:=N.s.L) hA hr ho.k (by omega);refine A4 c92 Tryz.func92 ?_;refine xM hn.o ?_;refine aP (xQ AF (by omega) (λx hx=>by have:=(hA x hx).n;omega)) ?_;rintro _ m1⟨v1,p1,rfl,bM,lZ⟩;obtain⟨q1,mQ,F2,ml⟩:=hn.up bM;refine⟨yt hn.o (bM.sub),?_⟩;refine aP (bi.frame ml.ba (SM (hg.j8.sub mQ) (FZ (lZ.sub F2) hI.gl (by omega)) (hy.sub mQ) ho (by omega))) ?_;rintro _ m2⟨q2,⟨s2,v2,rfl,rO,vD,lD⟩,bZ⟩;have kV:=ml.ba' bZ rO;have JK:=mQ.trans rO;generalize tC N.s.L y=a at*;obtain⟨am,je,ae⟩:=a;simp only at hF ez vD lD⊢;apply bI<;>intro h1
 ·have h1:ae≠0:=by simpa using h1
  rw[aC h1]at hF;subst hF;obtain⟨p5,eD,w6⟩:=kV.cl;exact⟨rfl,(tD.cR eD w6).lB JK⟩
 have h1:ae=0:=by simpa using h1
 rw[if_neg (by simp[h1])]at hF;obtain⟨hso,WZ⟩:=ez h1;obtain⟨p5,eD,w6⟩:=kV.cl;have AG:=WZ.l;refine aP (Lg (hg.sub JK) eD w6 hI (by omega) hk lD WZ.a (λx hx=>by obtain⟨c,hc,e⟩:=WZ.k x hx;rw[e];exact ho.s c hc)) ?_;rintro _ m3⟨rfl,hL3⟩;have HW:=KT qt je N;generalize N.fT qt je=z at*;obtain⟨N3,e3⟩:=z;simp only at hF hL3 HW⊢;apply bI<;>intro h2
 ·have h2:e3≠0:=by simpa using h2
  rw[aC h2]at hF;subst hF;exact⟨rfl,hL3.lB JK⟩
 have h2:e3=0:=by simpa using h2
 rw[if_neg (by simp[h2])]at hF;obtain⟨p6,q6,gC,Zw,I9⟩:=hL3.ex;refine aP (Hd ((hg.sub JK).j8.sub Zw) gC I9 (vD.sub Zw) hso (by rw[HW];exact Fc)) ?_;rintro _ m7⟨rfl,hL7⟩;subst hF;exact⟨rfl,hL7.lB (JK.trans Zw)⟩
theorem BH(t:List Nat):∀(k:List Int) (d:List (List Nat)),(Tr.I6 t k d).length<=k.length
 |k::ks,d::ds=>by
  have:=BH t ks ds;rw[Tr.I6]
  split<;>simp<;>omega
 |[],_=>by simp[Tr.I6]
 |_::_,[]=>by simp[Tr.I6]
theorem abl(t:List Nat)(l:List Int)(D:List (List Nat)):(z1 t l D).length<=4*l.length:=by
 unfold z1;have:=Tr.rN l;split
 ·exact bq (BH t _ D) this
 ·simp
section
variable {m:aD}{x:kl}{s:CN}{v:Value}{L:List Kd}{y:gX}{t:iS}
theorem Zb:eN tP 242 [uR x s,mT y t] m [bR (Lq x y)]:=by
 refine ub Tryz.func242 ?_;conv=>whnf
 unfold Lq
 iterate 3 (refine⟨λh=>?_,λh=>?_⟩;rotate_left;(conv=>whnf);exact⟨by rw[h];rfl,rfl⟩;rw[h,bj];conv=>whnf)
 exact rR
theorem SH(hx:qZ m x s):bi tP 320 [uR x s] m λr m'=>∃v',r=[.v v']/\Ia m' v' (atF x)/\cL m m':=by
 refine ub Tryz.func320 ?_;conv=>whnf
 unfold atF;apply bI<;>intro h
 ·have h':x.round=1:=by simpa using h
  refine .mk _ (qa) ?_;rintro _ _⟨b5,mo,rfl,rfl⟩;conv=>whnf
  rw[aC h'];exact⟨_,rfl,(Il.blk1 (aD.bg ..)).ia,aD.bT _ mo⟩
 ·have h':¬x.round=1:=by simpa using h
  conv=>whnf
  rw[if_neg h'];exact⟨_,rfl,hx.pl,cL.refl _⟩
theorem Pg{tr:List Nat}{v w:Value}{l:List Int}{D:List (List Nat)}(ht:tr.length=672)(hv:Ia m v l)(hw:OO m w D)(hl:l.length<=1000000)(hI:Pls l):bi tP 321 [Gf tr,.v v,.v w] m λr m'=>∃v' e q,r=[.v v',i64 e]/\aq m' [q,m]/\Io q v' (z1 tr l D):=by
 unfold z1;by_cases h:(Tr.fV l).length=D.length
 ·rw[aC h]
  exact(Ya ht hv hw hl hI h).mono λr m' ⟨v',q,h1,h2,h3⟩=>⟨v',0,q,h1,h2,h3⟩
 ·rw[if_neg h]
  exact(TE hv hw hl hI h).mono λr m' ⟨h1,h2⟩=>⟨_,3,iI,h1,((aq.one m).grow h2).cA,Io.nil _⟩
theorem ZF{bQ:Int}(hS:cK m)(hx:qZ m x s)(hr:gx x=true)(hv:Bz m v L)(hy:gy m y t)(hyr:dR y=true)(apK:ql bQ=true):
  bi tP 243 [uR x s,.v v,mT y t,i64 bQ] m λr m'=>∃s' p,r=[uR (jk x L y bQ).1 s',bR (jk x L y bQ).2]/\aq m' [p,m]/\qZ p (jk x L y bQ).1 s':=by
 have hF:jk x L y bQ=if x.round=1/\y.kind=4 then(Bp x,true)else if x.round=3/\y.kind=6/\y.pl=x.pl then(Bp x,true)else if y.kind≠5\/(x.round≠1/\x.round≠2)\/y.pl≠atF x then(oW,false)else if z1 (lN L x.part) y.pl y.dg=[]then(Bp x,true)else(vT x (x.round+1) (z1 (lN L x.part) y.pl y.dg) bQ,true):=rfl
 have ry:=nD hyr;have rx:=De hr;have CU:=x6 rx.2.2.2.2.2.2.1 (by omega);have hpy:=ry.pn;have apJ:0<=bQ/\bQ<=1099511627776:=by simpa [ql,rB]using apK
 generalize jk x L y bQ=z at*
 have qX:∀(w:kl) (b:Bool),z=(w,b)->w.pl=[]->∀mm,cL m mm->∃s' p,[uR w (none,0),bR b]=[uR z.1 s',bR z.2]/\aq mm [p,m]/\qZ p z.1 s':=λw b h hw mm hs=>by
  rw[h];exact⟨_,iI,rfl,((aq.one m).grow hs).cA,by simp only[hw];exact(Io.nil _).il.ia,by simp only[hw];simp⟩
 refine A4 awo Tryz.func243 ?_;by_cases r3:x.round=3
 ·refine⟨λh=>absurd h (by simp[r3]),λ_=>?_⟩
  refine⟨λ_=>?_,λh=>absurd h (by simp[r3])⟩;apply bI<;>intro h
  ·have k6:y.kind=6:=by simpa using h
   refine bt (yK hy.pl hx.pl (by omega)) ?_;apply bI<;>intro h
   ·have e:y.pl=x.pl:=by simpa using h
    refine bt (rE) ?_;exact qX (Bp x) true (by rw[hF,if_neg (by omega),aC ⟨r3,k6,e⟩]) rfl m (cL.refl _)
   ·have e:¬y.pl=x.pl:=by simpa using h
    refine⟨λ_=>?_,λh=>absurd h (by simp[k6])⟩;exact qX oW false (by rw[hF,if_neg (by omega),if_neg (by simp[e]),aC (.inl (by omega))]) rfl m (cL.refl _)
  ·have k6:¬y.kind=6:=by simpa using h
   apply bI<;>intro h
   ·have k5:y.kind≠5:=by simpa using h
    exact qX oW false (by rw[hF,if_neg (by omega),if_neg (by omega),aC (.inl k5)]) rfl m (cL.refl _)
   ·refine⟨λ_=>?_,λh=>absurd h (by simp[r3])⟩
    refine⟨λ_=>?_,λh=>absurd h (by simp[r3])⟩;exact qX oW false (by rw[hF,if_neg (by omega),if_neg (by omega),aC (.inr (.inl (by omega)))]) rfl m (cL.refl _)
 by_cases r0:x.round=0
 ·refine⟨λh=>absurd h (by simp[r0]),λ_=>?_⟩
  refine⟨λh=>absurd h (by simp[r0]),λ_=>?_⟩;apply bI<;>intro h
  ·have k5:y.kind≠5:=by simpa using h
   exact qX oW false (by rw[hF,if_neg (by omega),if_neg (by omega),aC (.inl k5)]) rfl m (cL.refl _)
  ·refine⟨λ_=>?_,λh=>absurd h (by simp[r0])⟩
   refine⟨λ_=>?_,λh=>absurd h (by simp[r0])⟩;exact qX oW false (by rw[hF,if_neg (by omega),if_neg (by omega),aC (.inr (.inl (by omega)))]) rfl m (cL.refl _)
 by_cases k5:y.kind=5;rotate_left
 ·by_cases k4:y.kind=4
  ·by_cases r1:x.round=1
   ·refine⟨λ_=>?_,λh=>absurd h (by simp[r1])⟩
    refine⟨λ_=>?_,λh=>absurd h (by simp[k4])⟩;refine bt (rE) ?_;exact qX (Bp x) true (by rw[hF,aC ⟨r1,k4⟩]) rfl m (cL.refl _)
   ·refine⟨λh=>absurd h (by simp[r1]),λ_=>?_⟩
    refine⟨λh=>absurd h (by simp[r3]),λ_=>?_⟩;refine⟨λ_=>?_,λh=>absurd h (by simp[k5])⟩;exact qX oW false (by rw[hF,if_neg (by omega),if_neg (by omega),aC (.inl k5)]) rfl m (cL.refl _)
  ·have e:=qX oW false (by rw[hF,if_neg (by omega),if_neg (by omega),aC (.inl k5)]) rfl m (cL.refl _)
   apply bI<;>intro h
   ·refine⟨λh=>absurd h (by simp[k4]),λ_=>?_⟩
    refine⟨λh=>absurd h (by simp[r3]),λ_=>?_⟩;refine⟨λ_=>?_,λh=>absurd h (by simp[k5])⟩;exact e
   ·refine⟨λh=>absurd h (by simp[r3]),λ_=>?_⟩
    refine⟨λ_=>?_,λh=>absurd h (by simp[k5])⟩;exact e
 have hF':z=if y.pl≠atF x then(oW,false)else if z1 (lN L x.part) y.pl y.dg=[]then(Bp x,true)else(vT x (x.round+1) (z1 (lN L x.part) y.pl y.dg) bQ,true):=by
  rw[hF,if_neg (by omega),if_neg (by omega)];by_cases e:y.pl≠atF x
  ·rw[aC e,aC (.inr (.inr e))]
  ·rw[if_neg e,if_neg (by simp[k5,e];omega)]
 by_cases r1:x.round=1
 case' pos=>
  refine⟨λ_=>?_,λh=>absurd h (by simp[r1])⟩;refine⟨λh=>absurd h (by simp[k5]),λ_=>?_⟩;refine⟨λh=>absurd h (by simp[r3]),λ_=>?_⟩;refine⟨λh=>absurd h (by simp[k5]),λ_=>?_⟩;refine⟨λh=>absurd h (by simp[r1]),λ_=>?_⟩;conv=>whnf
 case' neg=>
  refine⟨λh=>absurd h (by simp[r1]),λ_=>?_⟩;refine⟨λh=>absurd h (by simp[r3]),λ_=>?_⟩;refine⟨λh=>absurd h (by simp[k5]),λ_=>?_⟩;refine⟨λ_=>?_,λh=>absurd h (by simp[r1])⟩;refine⟨λh=>absurd h (by simp;omega),λ_=>?_⟩;conv=>whnf
 all_goals
  refine aP (SH hx) ?_;rintro _ m1⟨va,rfl,hva,bM⟩
  try refine⟨λ_ h=>(by cases h),?_⟩
  refine bt (yK (hy.pl.sub bM) hva (by omega)) ?_;by_cases e:y.pl=atF x;rotate_left
  ·rw[aC e]at hF'
   refine⟨λ_=>?_,λh=>absurd h (by simp[e])⟩;exact qX oW false hF' rfl m1 bM
  rw[if_neg (by simp[e])]at hF';refine⟨λh=>absurd h (by simp[e]),λ_=>?_⟩;refine aP (AQ (part:=x.part) (hS.sub bM) (hv.sub bM)) ?_;rintro _ m2⟨rfl,bZ⟩
  try refine⟨λ_ h=>(by cases h),?_⟩
  have vD:=bM.trans bZ;refine aP (Pg (xI L x.part).len (hy.pl.sub vD) (hy.dg.sub vD) (by omega) (λp hp=>by have:=ry.pl p hp;omega)) ?_;rintro _ m3⟨vn,er,q,rfl,dy,hq⟩
  try refine⟨λ_ h=>(by cases h),?_⟩
  have hul:=abl (lN L x.part) y.pl y.dg;generalize z1 (lN L x.part) y.pl y.dg=N at*;obtain⟨an,cn,rfl⟩:=hq.il.ia.shape;apply bI<;>intro h
  ·have h0:N=[]:=cB (by have:((N.length:Nat):Int)=0:=(by simpa using h);omega)
   rw[aC h0]at hF';refine bt (rE) ?_;exact qX (Bp x) true hF' rfl m3 (vD.trans (dy.sub))
  ·have h0:¬N=[]:=λe=>by subst e;simp at h
   rw[if_neg h0]at hF';conv=>whnf
   rw[wi];refine bt (GH apJ) ?_;conv=>whnf
   rw[hF'];exact⟨(an,cn),q,rfl,aq.lB dy vD,hq.il.ia,by simp only[vT];omega⟩
theorem aaC{bQ:Int}(hS:cK m)(hx:qZ m x s)(hv:Bz m v L)(hy:gy m y t)(ho:qx y):
  bi tP 163 [uR x s,.v v,mT y t,i64 bQ] m λr m'=>(Ca x L y bQ≠0/\r=[uR oW (none,0),.v (.slice none 0 0),i64 (Ca x L y bQ)]/\cL m m')\/(Ca x L y bQ=0/\∃s' p v',r=[uR (jk x L y bQ).1 s',.v v',i64 0]/\aq m' [p,m]/\qZ p (jk x L y bQ).1 s'/\lu m' v' y.ca):=by
 have hE:Ca x L y bQ=if gx x=false\/cX L=false\/dR y=false then 3 else if ql bQ=false then 1 else if x.round=0\/Lq x y=false then 7 else if (jk x L y bQ).2=false then 7 else 0:=rfl
 generalize Ca x L y bQ=er at*;refine A4 awF Tryz.func163 ?_;refine bt (tJ hx) ?_;by_cases h1:gx x=true;rotate_left
 ·have h1:gx x=false:=by simpa using h1
  rw[h1];refine xY ?_;conv=>whnf
  rw[aC (.inl h1)]at hE;subst hE;exact .inl ⟨by decide,rfl,cL.refl _⟩
 rw[h1];refine xN ?_;refine aP (iC hS hv.v hv.a (by have:=hv.l;omega)) ?_;rintro _ m1⟨rfl,bM⟩;by_cases h2:cX L=true;rotate_left
 ·have h2:cX L=false:=by simpa using h2
  rw[h2];refine xY ?_;conv=>whnf
  rw[aC (.inr (.inl h2))]at hE;subst hE;exact .inl ⟨by decide,rfl,bM⟩
 rw[h2];refine xN ?_;refine bt (nG (hS.sub bM) (hy.sub bM) ho) ?_;by_cases h3:dR y=true;rotate_left
 ·have h3:dR y=false:=by simpa using h3
  rw[h3];refine xY ?_;conv=>whnf
  rw[aC (.inr (.inr h3))]at hE;subst hE;exact .inl ⟨by decide,rfl,bM⟩
 rw[h3];refine xN ?_;conv=>whnf
 rw[if_neg (by simp[h1,h2,h3])]at hE;refine bt (Bc) ?_;by_cases h4:ql bQ=true;rotate_left
 ·have h4:ql bQ=false:=by simpa using h4
  rw[h4];refine xY ?_;conv=>whnf
  rw[aC h4]at hE;subst hE;exact .inl ⟨by decide,rfl,bM⟩
 rw[h4];refine xN ?_;conv=>whnf
 rw[if_neg (by simp[h4])]at hE;apply bI<;>intro h
 ·have h5:x.round=0:=by simpa using h
  rw[aC (.inl h5)]at hE;subst hE;exact .inl ⟨by decide,rfl,bM⟩
 have h5:¬x.round=0:=by simpa using h
 refine bt (Zb) ?_;by_cases h6:Lq x y=true;rotate_left
 ·have h6:Lq x y=false:=by simpa using h6
  rw[h6];refine xY ?_;conv=>whnf
  rw[aC (.inr h6)]at hE;subst hE;exact .inl ⟨by decide,rfl,bM⟩
 rw[h6];refine xN ?_;conv=>whnf
 rw[if_neg (by simp[h5,h6])]at hE;refine aP (ZF (hS.sub bM) (hx.sub bM) h1 (hv.sub bM) (hy.sub bM) h3 h4) ?_;rintro _ m2⟨s',p,rfl,bZ,hp⟩;have vD:=aq.lB bZ bM;by_cases h7:(jk x L y bQ).2=true;rotate_left
 ·have h7:(jk x L y bQ).2=false:=by simpa using h7
  rw[h7];refine xY ?_;conv=>whnf
  rw[aC h7]at hE;subst hE;exact .inl ⟨by decide,rfl,vD.sub⟩
 rw[h7];refine xN ?_;conv=>whnf
 rw[if_neg (by simp[h7])]at hE;obtain⟨R,hR,hK⟩:=hy.ca;refine aP (nO (hR.sub (vD.sub)) (by have:=hK.len;have:=ho.n;omega)) ?_;rintro _ m4⟨v4,p4,rfl,eP,hp4⟩
 try refine⟨λ_ h=>(by cases h),?_⟩
 refine .inr ⟨hE,s',p,v4,rfl,(vD.grow (eP.sub)),hp,R,(hp4.el.sub (eP.sub)).ea,hK.sub ((vD.sub).trans (eP.sub))⟩
end
variable {mm p q:aD}{X:Jg}{qt:Int}{N:fw}{j k:Nat}
def atS(l:List kl)(id:Int):Option Nat:=l.findIdx? λs=>decide (s.id=id)
def DS(qt:Int)(N:fw)(y:gX)(i:Nat)(x:kl):fw×Int:=
 if Ca x N.s.L y N.bQ≠0 then(N,Ca x N.s.L y N.bQ)
 else if jC N.s.L y.ca≠0 then(N,jC N.s.L y.ca)
 else if (N.fT qt (gn N.s.L y.ca).2).2≠0 then N.fT qt (gn N.s.L y.ca).2
 else if (jk x N.s.L y N.bQ).1.round=0 then({(N.fT qt (gn N.s.L y.ca).2).1 with l:=N.l.take i++N.l.drop (i+1)},0)
 else({(N.fT qt (gn N.s.L y.ca).2).1 with l:=N.l.set i (jk x N.s.L y N.bQ).1}.CR (jk x N.s.L y N.bQ).1,0)
def vf(qt:Int)(N:fw)(y:gX):fw×Int:=
 match atS N.l y.qA with
 |none=>(N,4)
 |some i=>DS qt N y i (N.l.getD i oW)
theorem Vd{e:AM}(hb:m b=some (px y s)):eN tP 162 [Sev e,cx b] m [bR (decide (e.1.id=y.qA))]:=by
 refine ub Tryz.func162 ?_;refine xM hb ?_;exact⟨by rw[<-qO],rfl⟩
theorem ahb{l:List Nat}(h:∀x∈l,∃o,m x=some o)(hs:cL m m'):y3 l m m':=λx hx=>by
 obtain⟨o,ho⟩:=h x hx;rw[ho,hs _ _ ho]
theorem vW(qt:Int):∀(L:List Kd) (N:fw),(N.fT qt L).1={N with s:=(N.fT qt L).1.s,A:=(N.fT qt L).1.A,nb:=(N.fT qt L).1.nb}
 |[],N=>rfl
 |x::L,N=>by
  unfold fw.fT;split
  ·have h:=vW qt L (N.put x)
   generalize (N.put x).fT qt L=z at*;rw[h];rfl
  ·rfl
variable{id:Int}
theorem ae6{l:List kl}(h:∀s∈l,decide (s.id=id)=false):atS l id=none:=List.findIdx?_eq_none_iff.2 h
theorem ae5{l:List kl}(hi:i<l.length)(h:decide (l[i].id=id)=true)(h2:∀s∈l.take i,decide (s.id=id)=false):atS l id=some i:=by
 unfold atS;rw[aaD];refine⟨hi,h,λj hj=>?_⟩;have:=h2 (l[j]'(by omega)) (lw.2 ⟨j,by omega,rfl⟩);rw[this];simp
theorem Ux(hg:jZ q)(hs:aq mm [p,q])(h:y0 p q X qt N)(hI:pO qt j k N)(hj:j+y.ca.length<=1300)(hk:k<=500)(hy:gy q y s)(ho:qx y)(Fc:N.B.dE.length<500)(hll:N.l.length<=500):
  bi tP 94 [cx X.a,mT y s] mm λr m'=>r=[i64 (vf qt N y).2]/\tD m' q X qt (vf qt N y).1:=by
 obtain⟨lv,pr,ps,pf,pb,pl,R,hn⟩:=h.op hs;have hLL:=hI.ll;have hA:∀x∈N.s.L,jg x:=λx hx=>(hI.gl x hx).arg;obtain⟨dE,hF⟩:∃o,vf qt N y=o:=⟨_,rfl⟩;rw[hF];unfold vf at hF;refine A4 c94 Tryz.func94 ?_;intro b3 Ah;obtain⟨q1,mQ,kW,ml⟩:=hn.oK (o:=px y s) Ah;refine⟨_,aF ml.o rfl,ml.one,?_⟩;refine .mk _ (df (cs:=[.pointer (some ⟨b3,0,none⟩)]) (by simp[Value.oneCell'])) ?_;rintro _ _⟨rfl,rfl⟩;have ahX:=ml.gM _ _ kW;have hRl:R.length=N.l.length:=by rw[<-ml.l.e,aH]
 refine bt (AE (p:=λr=>decide (r.1.id=y.qA)) (ml.l.o.el.ea.sub (ml.sp.sub)) (λr _=>Vd ahX) (by omega)) ?_;rcases lY (λr:AM=>decide (r.1.id=y.qA)) R with⟨e1,e2⟩|⟨i,hi,e1,e2,e3⟩
 ·rw[e1]
  have xr:atS N.l y.qA=none:=ae6 λs hs=>by
   rw[<-ml.l.e]at hs;obtain⟨r,hr,rfl⟩:=aV.1 hs;exact e2 r hr
  rw[xr]at hF;refine xY ?_;subst hF;obtain⟨p5,eD,w6⟩:=ml.cl;exact⟨rfl,(tD.cR eD w6).lB mQ⟩
 rw[e1];have hil:i<N.l.length:=by omega
 have xz:R[i].1=N.l[i]:=by
  have:=be (λl:List kl=>l[i]?) ml.l.e;simp only[cj,az hi,az hil,dZ,aM]at this;exact this
 have nT:atS N.l y.qA=some i:=ae5 hil (by rw[<-xz];exact e2) λs hs=>by
  rw[<-ml.l.e,<-jJ]at hs;obtain⟨r,hr,rfl⟩:=aV.1 hs;exact e3 r hr
 rw[nT]at hF;have NU:N.l.getD i oW=R[i].1:=by rw[xz,aI,az hil];rfl
 simp only[NU]at hF;have hse:=ml.l.a R[i] (aO hi);obtain⟨b2,ol,c2,hh,js⟩:=(ml.l.o.el.ea.sub (ml.sp.sub)).real hi;have js:=js i hi;subst hh;generalize hri:R[i]=rs at*;obtain⟨x,sx⟩:=rs;simp only at hF hse;refine xN ?_;refine⟨_,aF ml.o rfl,ml.one,?_⟩
 repeat refine xS ?_
 refine⟨x.L sx,⟨rfl,rfl,rfl,rfl,rfl,rfl,rfl,rfl,rfl,rfl,rfl,trivial⟩,rfl,by simp only[bK,aA];exact js,?_⟩;refine xM ml.o ?_;refine⟨gX.L y s,wb hy.Th,rfl,dQ.Wl [] [] ahX rfl,?_⟩;refine xM ml.o ?_;obtain⟨bl,lv2,sv,AF⟩:=ml.sr;refine aP (xQ AF (by omega) (λx hx=>by have:=(hA x hx).n;omega)) ?_;rintro _ m1⟨v1,p1,rfl,bM,lZ⟩;obtain⟨q2,rO,lE,kV⟩:=ml.up bM;refine⟨ahb (λz hz=>?_) (bM.sub),?_⟩
 ·simp only[aU,fG,rH]at hz
  obtain⟨arr,t,fr,g1,_⟩:=js;rcases hz with rfl|rfl|rfl|rfl|rfl<;>first|exact⟨_,ml.o⟩|exact⟨_,ahX⟩|exact⟨_,g1⟩
 have JK:=mQ.trans rO;refine aP (bi.frame kV.ba (aaC (bQ:=N.bQ) (hg.j8.sub JK) (hse.sub rO) (FZ (lZ.sub lE) hI.gl (by omega)) (hy.sub JK) ho)) ?_;rintro _ m2⟨q3,u9,bZ⟩;conv=>whnf
 unfold DS at hF;rcases u9 with⟨e4,rfl,EK⟩|⟨e4,s',p3,v3,rfl,dy,ZK,tX⟩
 ·have LQ:=kV.ba' bZ EK
  rw[aC e4]at hF;refine⟨λ_=>?_,λh=>absurd h (by simpa using e4)⟩;subst hF;obtain⟨p5,eD,w6⟩:=LQ.cl;exact⟨rfl,(tD.cR eD w6).lB (JK.trans EK)⟩
 have EK:cL q2 q3:=dy.sub (by simp);have LQ:=kV.ba' bZ EK;have ZK:=ZK.sub (dy.sub (a:=p3));rw[if_neg (by simpa using e4)]at hF;generalize (jk x N.s.L y N.bQ).1=x' at*;have aua:=JK.trans EK;refine xN ?_;refine xM LQ.o ?_;obtain⟨bl4,lv4,sv4,atU⟩:=LQ.sr;refine aP (xQ atU (by omega) (λx hx=>by have:=(hA x hx).n;omega)) ?_;rintro _ m4⟨v4,p4,rfl,eP,QZ⟩;obtain⟨q4,Zx,hp4,hn4⟩:=LQ.up eP;have NO:=aua.trans Zx;refine aP (bi.frame hn4.ba (Hm (hg.j8.sub NO) (FZ (QZ.sub hp4) hI.gl (by omega)) (tX.sub Zx) ho.k ho.n)) ?_;rintro _ m5⟨q5,⟨v5,v6,rfl,NM,hmk⟩,eD⟩;have w6:=hn4.ba' eD NM;have aht:=NO.trans NM;have WZ:=C8 hA ho.k;have hme:jC N.s.L y.ca=jC N.s.L y.ca:=rfl;generalize jC N.s.L y.ca=me at*;generalize (gn N.s.L y.ca).2=tu at*;apply bI<;>intro h1
 ·have h1:me≠0:=by simpa using h1
  rw[aC h1]at hF;subst hF;obtain⟨p6,gC,I9⟩:=w6.cl;exact⟨rfl,(tD.cR gC I9).lB aht⟩
 have h1:me=0:=by simpa using h1
 rw[if_neg (by simp[h1])]at hF;have hv6:=(hmk h1).2;obtain⟨p6,gC,I9⟩:=w6.cl;have AG:=WZ.l;refine aP (Lg (hg.sub aht) gC I9 hI (by omega) hk hv6 WZ.a (λx hx=>by obtain⟨c,hc,e⟩:=WZ.k x hx;rw[e];exact ho.s c hc)) ?_;rintro _ m7⟨rfl,hL7⟩;have hpo:=vW qt tu N;have hI7:=hI.fT (L:=tu) λx hx=>(WZ.a x hx).u;generalize N.fT qt tu=z at*;obtain⟨N7,e7⟩:=z;simp only at hF hL7 hpo hI7⊢;apply bI<;>intro h2
 ·have h2:e7≠0:=by simpa using h2
  rw[aC h2]at hF;subst hF;exact⟨rfl,hL7.lB aht⟩
 have h2:e7=0:=by simpa using h2
 rw[if_neg (by simp[h2])]at hF;obtain⟨p8,q8,k8,Zv,JO⟩:=hL7.ex;obtain⟨lv8,pr8,ps8,pf8,pb8,pl8,R8,tj⟩:=JO.op k8;have hl7:N7.l=N.l:=by rw[hpo]
 have aBu:R8.length=N.l.length:=by rw[<-hl7,<-tj.l.e,aH]
 have ale:=aht.trans Zv;have aqB:=ZK.sub ((Zx.trans NM).trans Zv);apply bI<;>intro h3
 ·have h3:x'.round=0:=by simpa using h3
  rw[aC h3]at hF;refine⟨_,aF tj.o rfl,tj.one,?_⟩;refine aP (CA (tj.l.o.el.ea.sub (tj.sp.sub)) (by omega)) ?_;rintro _ m10⟨v10,p10,rfl,nr,atM⟩;conv=>whnf
  have u7:aq m10 [p10,blk1 X.a (iq X N7 lv8),pr8,ps8,pf8,pb8,pl8,q8]:=aq.jN (a:=[p10]) nr tj.sp;obtain⟨qq,hqq,JJ,oF⟩:=u7.fb;have ew:IntKind.i64.wrap ((i:Int)+1)=((i+1:Nat):Int):=qJ (by omega);rw[ew];refine aP (JX JJ atM (show i<R8.length by omega) (by omega)) ?_;rintro _ m11⟨v11,p11,rfl,NL,apj⟩;have Zu:aq m11 [p11,blk1 X.a (iq X N7 lv8),pr8,ps8,pf8,pb8,pl8,q8]:=oF _ [p11] NL;have hob:m11 X.a=some (iq X N7 lv8):=Zu.get (a:=blk1 X.a _) (by simp) (aG ..);have hy1:v11.oneCell'=true:=by obtain⟨_,_,e⟩:=apj.el.shape;rw[e];rfl
  refine⟨_,_,_,hob,⟨by simp,by simp⟩,?_⟩;subst hF;have apw:aq m11 [blk1 X.a (iq X N7 lv8),pr8,ps8,pf8,pb8,p11,q8]:=Zu.ir [1,2,3,4,5,0,7];have ahq:=apw.set (aG ..) (iq X {N7 with l:=N.l.take i++N.l.drop (i+1)} v11);rw[cJ]at ahq;refine⟨rfl,tD.of (q':=q8) (lv:=v11) (pr:=pr8) (ps:=ps8) (pf:=pf8) (pb:=pb8) (pl:=p11) (R:=R8.take i++R8.drop (i+1)) ⟨ahq,tj.r,tj.s,tj.f,tj.b,apj,?_,λr hr=>?_⟩ ale⟩
  ·rw[bD,jJ,List.map_drop,tj.l.e,hl7]
  ·rcases aR.1 hr with hr|hr
   ·exact tj.l.a r (bX hr)
   ·exact tj.l.a r (fk hr)
 ·have h3:¬x'.round=0:=by simpa using h3
  rw[if_neg h3]at hF;refine⟨_,aF tj.o rfl,tj.one,?_⟩;obtain⟨b9,o9,c9,hh,_⟩:=(tj.l.o.el.ea).real (show i<R8.length by omega);subst hh;obtain⟨arr,k1,k2,k3⟩:=l6.set (x:=(x',s')) tj.l.o (show i<R8.length by omega)
  repeat refine xS ?_
  refine⟨_,_,_,tj.sp.sub (a:=pl8) (by simp) _ _ k1,⟨by simp only[bK,aA];exact k2,Jz⟩,?_⟩;have nr:=(tj.sp.gu (i:=5) rfl k1 (.cells (arr.toList.take (o9+i*11)++(ET (x',s')++arr.toList.drop (o9+i*11+11))).toArray 63));simp only[bK,aA]
  have NS:nS _ q8 X qt {N7 with l:=N.l.set i x'} (.slice (some ⟨b9,o9,none⟩) R8.length c9) pr8 ps8 pf8 pb8 _ (R8.set i (x',s')):=⟨nr,tj.r,tj.s,tj.f,tj.b,k3,by rw[Ap,tj.l.e,hl7],λr hr=>by
   rcases fa hr with hr|rfl
   ·exact tj.l.a r hr
   ·exact aqB⟩
  have hB7:N7.B=N.B:=by rw[hpo]
  refine aP (A6 (hg.sub ale).j8 NS aqB hI7.gl (show N7.s.L.length<=1300 from bq hI7.ll (by omega)) (show N7.B.dE.length<500 by rw[hB7];exact Fc)) ?_;rintro _ m12⟨rfl,hB⟩;subst hF;exact⟨rfl,hB.l.lB ale⟩
variable {mm p q:aD}{X:Jg}{qt:Int}{N:fw}{j k:Nat}
def A9(qt:Int)(N:fw)(x:Kd):fw×Int:=(if yp qt N.A N.s x then N.put (x.1,(jw N.s x).1)else N,Hn qt N.A N.s x)
def mK(qt:Int)(N:fw)(y:gX):fw×Int:=
 if y.qe≠N.n then(N,11)
 else if G8 N y=false then(N,12)
 else if rB y.kind 1 3 then qc qt N y
 else if y.kind=7 then(match y.ca with|x::_=>A9 qt N x|[]=>(N,0))
 else vf qt N y
theorem Qm(hg:jZ q)(hs:aq mm [p,q])(h:y0 p q X qt N)(hT:NdT N)(hI:pO qt j k N)(hj:j+y.ca.length<=1300)(hk:k<=500)(hy:gy q y s)(ho:qx y)(hr:dR y=true)(Fc:N.B.dE.length<500)(hll:N.l.length<=500):
  bi tP 41 [cx X.a,mT y s] mm λr m'=>r=[i64 (mK qt N y).2]/\tD m' q X qt (mK qt N y).1:=by
 obtain⟨lv,pr,ps,pf,pb,pl,R,hn⟩:=h.op hs;have hR:=nD hr;obtain⟨dE,hF⟩:∃o,mK qt N y=o:=⟨_,rfl⟩;rw[hF];unfold mK at hF;refine A4 c41 Tryz.func41 ?_;refine xM hn.o ?_;apply bI<;>intro h1
 ·have h1:y.qe≠N.n:=by simpa using h1
  rw[aC h1]at hF;subst hF;exact⟨rfl,tD.cR hs h⟩
 have h1:y.qe=N.n:=by simpa using h1
 rw[if_neg (by simp[h1])]at hF;refine aP (Qi hg.j8 hs h hT hy hr) ?_;rintro _ m1⟨rfl,hL1⟩;obtain⟨p1,q1,bM,mQ,ml⟩:=hL1.ex;by_cases h2:G8 N y=true;rotate_left
 ·have h2:G8 N y=false:=by simpa using h2
  rw[aC h2]at hF;rw[h2];refine xY ?_;subst hF;exact⟨rfl,hL1⟩
 rw[if_neg (by rw[h2];decide)]at hF;rw[h2];refine xN ?_;refine bt (Mi) ?_;apply bI<;>intro h3
 ·rw[aC h3]at hF
  refine aP (Nn (hg.sub mQ) bM ml hI hj hk (hy.sub mQ) ho hr Fc) ?_;rintro _ m2⟨rfl,hL2⟩;conv=>whnf
  rw[hF]at hL2⊢;exact⟨rfl,hL2.lB mQ⟩
 rw[if_neg (by rw[h3];decide)]at hF;apply bI<;>intro h4
 ·have h4:y.kind=7:=by simpa using h4
  rw[aC h4]at hF
  have Vf:∃x,y.ca=[x]:=by
   have:=hR.ok;unfold Vo at this;rw[if_neg (by omega),if_neg (by omega),if_neg (by omega),if_neg (by omega),aC h4]at this;simp only[aB,bA]at this;exact I3.1 this.1.1
  obtain⟨x,hx⟩:=Vf;rw[hx]at hF;simp only at hF;obtain⟨lv1,pr1,ps1,pf1,pb1,pl1,R1,kV⟩:=ml.op bM;have hcq:=(hy.sub mQ).ca;have hlen:y.ca.length=1:=by rw[hx];rfl
  have EM:x.1.size<=1000000:=by have:=lQ hR.ca x (by rw[hx];simp);omega
  have hxA:=ho.k x (by rw[hx];simp);obtain⟨rs,hR1,hK⟩:=hcq;have hrl:=hK.len;rw[hlen]at hrl hR1;obtain⟨b2,o2,c2,hh,Ag⟩:=hR1.real (i:=0) (by omega);have hky:=hK.je 0 (by omega) (by omega);have Ag:=Ag 0 (by omega);have e0:y.ca[0]'(by omega)=x:=by simp[hx]
  rw[e0]at hky;generalize rs[0]'(by omega)=r at*;injection hh with eK _ fN;obtain⟨xk,xu,xE⟩:=x;obtain⟨rk,ru,ra,rn,rc⟩:=r;have zu:=hky.len;obtain⟨g1,g2,g3,g4⟩:=hky;simp only at g1 g2 g3 g4 zu EM hxA;subst g1 g2 zu;have Ag:=Ag.sub kV.gM;have JR:=fZ (j:=0) Ag rfl;have U7:=dQ.tail (k:=1) Ag
  have ee:List.drop 1 (fj (rk,ru,(ra,xE.length,rc)))=LB.cz [.bG .u64 8 ru,.one (.slice ra xE.length rc)]:=by
   simp[fj,yn g3,LB.cz,eB.cells]
  rw[ee]at U7;refine xM kV.o ?_;conv=>whnf
  rw[hlen,eK]
  repeat refine xS ?_
  refine⟨_,by simpa [bK]using JR,rfl,?_⟩;conv=>whnf
  rw[hlen,eK]
  repeat refine xS ?_
  refine⟨[.bG .u64 8 ru,.one (.slice ra xE.length rc)],⟨g3,rfl,trivial⟩,rfl,by simpa [bK]using U7,?_⟩;obtain⟨j3,hj3,dy⟩:=kV.sto;have hI1:=hI.sm (j:=j) (by omega) hk;refine aP (bi.frame dy (MI (k:=rk) (u:=ru) (E:=xE) (hg.sub mQ) hj3 kV.s kV.f hI1 g4 hxA EM hI.qr (by have:=hI.rl;omega) (by have:=hI.ll;omega) (λx hx=>(hI.gl x hx).arg))) ?_;rintro _ m4⟨j4,⟨rfl,u9⟩,eP⟩
  try refine⟨λ_ h=>(by cases h),?_⟩
  have hN:A9 qt N (rk,ru,xE)=(if yp qt N.A N.s (rk,ru,xE)then N.put (rk,(jw N.s (rk,ru,xE)).1)else N,Hn qt N.A N.s (rk,ru,xE)):=rfl;rw[hN]at hF;subst hF;refine⟨rfl,tD.lB ?_ mQ⟩
  split at u9
  ·rename_i hb
   simp only[hb,oN];exact kV.ME eP u9
  ·rename_i hb
   simp only[hb];exact kV.ME eP u9
 ·have h4:¬y.kind=7:=by simpa using h4
  rw[if_neg h4]at hF;refine aP (Ux (hg.sub mQ) bM ml hI hj hk (hy.sub mQ) ho Fc hll) ?_;rintro _ m2⟨rfl,hL2⟩;conv=>whnf
  rw[hF]at hL2⊢;exact⟨rfl,hL2.lB mQ⟩
theorem aeJ:∀{l:List (List Int)},(∀r∈l,r.length<=6600)->(Fr.kP l).length<=6700*l.length
 |[],_=>by simp[Fr.kP]
 |r::l,h=>by
  have h1:=h r (by simp);have h3:=C3 (l:=r) (by omega);have h4:=aeJ (l:=l) λx hx=>h x (by simp[hx]);have e:(Fr.kP (r::l)).length=(Fr.wr r).length+(Fr.kP l).length:=by simp[Fr.kP]
  rw[e,bd,Nat.mul_succ];omega
theorem XC{L:List Kd}(h:∀x∈L,ki x):(eJ L).length<=6700*L.length:=by
 rw[aeM];have:=aeJ (l:=kI L) λr hr=>by obtain⟨x,hx,rfl⟩:=aV.1 hr;exact(h x hx).len.2
 rw[kI,aH]at this;exact this
def fw.KI(N:fw)(qt:Int)(A:List Af)(nb ns:Nat):fw:={N with s:=qf qt N.A N.s,A:=A,nb:=nb,ns:=ns,B:=if (tI qt N.A N.s).2=0/\(tI qt N.A N.s).1=0 then N.B.shift else N.B}
theorem abx(qt:Int)(A:List Af)(s:jf):(qf qt A s).P.length+(qf qt A s).R.length<=s.P.length+s.R.length/\(qf qt A s).g<=s.g+1:=by
 have h:=abN s;unfold qf
 repeat' split
 all_goals first|exact⟨aW _,Nat.le_succ _⟩|(refine⟨?_,aW _⟩;show s.L.length+([]:List Kd).length<=_;simpa using h)
theorem pO.KI(h:pO qt j k N){A':List Af}{oK kc:Nat}(h1:FI qt A' (qf qt N.A N.s))(h2:oK<=N.nb+(eJ N.s.L).length)(h3:kc<=N.ns+1)(h4:Gr N.A A' (eJ N.s.L).length)(hj:j<=1300):pO qt j (k+2) (N.KI qt A' oK kc):=by
 have hc:=XC h.gl;have hll:=h.ll;have hcj:(eJ N.s.L).length<=6700*j:=bq hc (iV _ hll);obtain⟨g1,g2⟩:=abx qt N.A N.s;have hg:=h.g;have hrl:=h.rl;have NQ:=h.ns;have hnb:=h.nb;have han:=h.an;have h4n:=h4.n;refine⟨h1,h.qr,bq g1 hrl,h4.l _ hcj h.al,?_,?_,?_,h4.nm h.nm,?_⟩
 ·show A'.length+(if (qf qt N.A N.s).R=[]then 1 else 0)<=k+2
  split at han<;>split<;>omega
 ·show oK<=_
  omega
 ·show kc<=_
  omega
 ·show(qf qt N.A N.s).g+1<=_
  omega
structure aff(qt:Int)(N:fw)(A':List Af)(oK kc:Nat):Prop where
 f:FI qt A' (qf qt N.A N.s)
 (nb:oK<=N.nb+(eJ N.s.L).length)
 (ns:kc<=N.ns+1)
 (gr:Gr N.A A' (eJ N.s.L).length)
theorem Uu(hg:jZ q)(hs:aq mm [p,q])(h:y0 p q X qt N)(hI:pO qt j k N)(hj:j<=1300)(hk:k<=500)(ho:N.B.dE.length<=1000)(ha:N.B.o7.length<=1000):
  bi tP 44 [cx X.a] mm λr m'=>r=[i64 (tI qt N.A N.s).2]/\∃A' oK kc,tD m' q X qt (N.KI qt A' oK kc)/\aff qt N A' oK kc:=by
 obtain⟨lv,pr,ps,pf,pb,pl,R,hn⟩:=h.op hs;have hc:=XC hI.gl;have hll:=hI.ll;have JR:=hI.g;refine ub Tryz.func44 ?_;refine xM hn.o ?_;obtain⟨j3,hj3,dy⟩:=hn.sto;refine aP (bi.frame dy (Pv hg hj3 hn.s hn.f (hI.sm hj hk) hI.nm hI.fi hI.qr (by omega) (by omega))) ?_;rintro _ m4⟨j4,⟨rfl,oK,kc,A',hL,HT,hnb,NQ,Xe⟩,eP⟩;have Tc:=hn.ME eP hL;have hI2:aff qt N A' oK kc:=⟨HT,hnb,NQ,Xe⟩;have hSd:N.KI qt A' oK kc={N with s:=qf qt N.A N.s,A:=A',nb:=oK,ns:=kc,B:=if (tI qt N.A N.s).2=0/\(tI qt N.A N.s).1=0 then N.B.shift else N.B}:=rfl;generalize tI qt N.A N.s=T at*;obtain⟨t1,t2⟩:=T;simp only at hSd⊢;apply bI<;>intro h1
 ·have h1:t2=0:=by simpa using h1
  subst h1;apply bI<;>intro h2
  ·have h2:t1=0:=by simpa using h2
   subst h2;rw[aC ⟨rfl,rfl⟩]at hSd;obtain⟨p5,q5,eD,NM,w6⟩:=Tc.ex;obtain⟨lv5,pr5,ps5,pf5,pb5,pl5,R5,I9⟩:=w6.op eD;obtain⟨j6,hj6,gC⟩:=I9.box;refine xM I9.o ?_;refine aP (bi.frame gC (P8 hj6 I9.b ho ha)) ?_;rintro _ m7⟨j7,⟨rfl,pb7,iU,hB7⟩,k8⟩;refine⟨rfl,A',oK,kc,?_,hI2⟩;rw[hSd];exact .of (I9.aeQ k8 iU (cL.refl _) hB7) NM
  ·have h2:t1≠0:=by simpa using h2
   rw[if_neg (by simp[h2])]at hSd;refine⟨rfl,A',oK,kc,?_,hI2⟩;rw[hSd];exact Tc
 ·have h1:t2≠0:=by simpa using h1
  rw[if_neg (by simp[h1])]at hSd;refine⟨rfl,A',oK,kc,?_,hI2⟩;rw[hSd];exact Tc
variable {mm p q:aD}{X:Jg}{qt:Int}{N:fw}{j k:Nat}
abbrev Cq(e:Int):XL:=⟨e,wa,[]⟩
def y4(qt:Int)(N:fw)(x:vF)(N':fw)(y:XL):Prop:=
 if aaL x=false then N'=N/\y=Cq 3
 else if x.kind=1 then(N',y)=lW qt N x
 else if x.kind=2 then(N',y)=qj N x
 else if x.kind=3 then N'=(lO N).1/\y=Cq (lO N).2
 else if x.kind=4 then N'=(oC N x.dr).1/\y=Cq (oC N x.dr).2
 else if x.kind=5 then N'=(mK qt N x.AB).1/\y=Cq (mK qt N x.AB).2
 else if x.kind=6 then ∃kc,kc<=N.ns+1/\N'={N with s:=N.s.Gj,A:=jU N.A (gK N.s.g),ns:=kc}/\y=Cq 0
 else if x.kind=7 then N'={N with s:=if sU N.s=0 then N.s.at 1 else N.s}/\y=Cq (sU N.s)
 else ∃A' oK kc,N'=N.KI qt A' oK kc/\y=Cq (tI qt N.A N.s).2/\aff qt N A' oK kc
structure NdZ(N:fw):Prop where
 o:N.B.dE.length<=300
 (an:N.B.o7.length<=900)
 (l:N.l.length<=100)
 (bQ:0<=N.bQ)
 (dO:0<=N.dO/\N.dO<=1000000)
theorem WW(h:x.AB.jI.length=32):LB.ok (x.L s):=⟨rfl,rfl,rfl,rfl,rfl,rfl,rfl,wb h⟩
theorem qm(hg:jZ q)(hs:aq mm [p,q])(h:y0 p q X qt N)(hT:NdT N)(hI:pO qt j k N)(hj:j<=1260)(hk:k<=500)(hx:vC q x s)(Vf:x.AB.ca.length<=30)(hZ:NdZ N)(hd:0<=x.dr/\x.dr<18446744073709551616):
  bi tP 15 [cx X.a,JD x s] mm λr m'=>∃N' y,y4 qt N x N' y/\NdR m' q X qt N' y r:=by
 obtain⟨lv,pr,ps,pf,pb,pl,R,hn⟩:=h.op hs;have hq:=hn.gM;have hzo:=hZ.o;have hzl:=hZ.l;have hza:=hZ.an;have hol:=zr hT.c x.key;have hol:(ko N.c x.key N.n).length<=128:=bq (bC _ _) hol;refine ub Tryz.func15 ?_;refine bt (A7 hn.o) ?_;refine xN ?_;refine bt (QQ (hg.j8.sub hq) (⟨hx.je.sub hq,hx.ok,hx.k⟩:vC mm x s)) ?_;by_cases h1:aaL x=true;rotate_left
 ·have h1:aaL x=false:=by simpa using h1
  rw[h1];refine xY ?_;exact⟨N,Cq 3,by unfold y4;rw[aC h1];exact⟨rfl,rfl⟩,.uK (tD.cR hs h)⟩
 have n1:¬aaL x=false:=by rw[h1];decide
 have ez:S5 x=true:=by
  have:=h1;unfold aaL at this;rw[aB]at this;exact this.1
 unfold S5 at ez;rw[h1];refine xN ?_;refine⟨λk1=>?_,λk1=>?_⟩
 ·have k1:x.kind=1:=by simpa using k1
  rw[aC k1]at ez;rw[aB]at ez;refine aP (Qj hg hs h hT hI hj hk hx ez.2 (by omega) (by omega)) ?_;rintro _ m1⟨⟨p1,q1,ea,ec,la,lc,rfl,g2,g3,g4,g5⟩⟩;exact⟨(lW qt N x).1,(lW qt N x).2,by unfold y4;rw[if_neg n1,aC k1],⟨p1,q1,ea,ec,la,lc,rfl,g2,g3,g4,g5⟩⟩
 have k1:¬x.kind=1:=by simpa using k1
 rw[if_neg k1]at ez;refine⟨λk2=>?_,λk2=>?_⟩
 ·have k2:x.kind=2:=by simpa using k2
  refine aP (Uv hg hs h hT hI (by omega) hx (by omega)) ?_;rintro _ m1⟨⟨p1,q1,ea,ec,la,lc,rfl,g2,g3,g4,g5⟩⟩;exact⟨(qj N x).1,(qj N x).2,by unfold y4;rw[if_neg n1,if_neg k1,aC k2],⟨p1,q1,ea,ec,la,lc,rfl,g2,g3,g4,g5⟩⟩
 have k2:¬x.kind=2:=by simpa using k2
 rw[if_neg k2]at ez;refine⟨λk3=>?_,λk3=>?_⟩
 ·have k3:x.kind=3:=by simpa using k3
  refine aP (Ut hg.j8 hs h hI (by omega) (by omega) hZ.bQ) ?_;rintro _ m1⟨rfl,hL⟩;exact⟨(lO N).1,Cq (lO N).2,by unfold y4;rw[if_neg n1,if_neg k1,if_neg k2,aC k3];exact⟨rfl,rfl⟩,.uK hL⟩
 have k3:¬x.kind=3:=by simpa using k3
 refine⟨λk4=>?_,λk4=>?_⟩
 ·have k4:x.kind=4:=by simpa using k4
  refine aP (Uy (d:=x.dr) hg.j8 hs h hT hI (by omega) hd (by omega) hZ.dO (by omega)) ?_;rintro _ m1⟨rfl,hL⟩;exact⟨(oC N x.dr).1,Cq (oC N x.dr).2,by unfold y4;rw[if_neg n1,if_neg k1,if_neg k2,if_neg k3,aC k4];exact⟨rfl,rfl⟩,.uK hL⟩
 have k4:¬x.kind=4:=by simpa using k4
 refine⟨λk5=>?_,λk5=>?_⟩
 ·have k5:x.kind=5:=by simpa using k5
  rw[aC k5]at ez;refine aP (Qm hg hs h hT hI (by omega) hk hx.je hx.ok ez (by omega) (by omega)) ?_;rintro _ m1⟨rfl,hL⟩;exact⟨(mK qt N x.AB).1,Cq (mK qt N x.AB).2,by unfold y4;rw[if_neg n1,if_neg k1,if_neg k2,if_neg k3,if_neg k4,aC k5];exact⟨rfl,rfl⟩,.uK hL⟩
 have k5:¬x.kind=5:=by simpa using k5
 obtain⟨j3,hj3,dy⟩:=hn.sto;have B8:=hI.sm (by omega) hk;refine⟨λk6=>?_,λk6=>?_⟩
 ·have k6:x.kind=6:=by simpa using k6
  refine xM hn.o ?_;refine aP (bi.frame dy (Pu hj3 hn.s hn.f B8)) ?_;rintro _ m4⟨j4,⟨rfl,kc,NQ,hL⟩,eP⟩;exact⟨_,Cq 0,by unfold y4;rw[if_neg n1,if_neg k1,if_neg k2,if_neg k3,if_neg k4,if_neg k5,aC k6];exact⟨kc,NQ,rfl,rfl⟩,.uK (hn.ME eP hL)⟩
 have k6:¬x.kind=6:=by simpa using k6
 refine⟨λk7=>?_,λk7=>?_⟩
 ·have k7:x.kind=7:=by simpa using k7
  refine xM hn.o ?_;refine aP (bi.frame dy (MN hg hj3 hn.s hn.f B8 hI.nm hI.fi (by have:=hI.ll;omega))) ?_;rintro _ m4⟨j4,⟨rfl,hL⟩,eP⟩;exact⟨_,Cq (sU N.s),by unfold y4;rw[if_neg n1,if_neg k1,if_neg k2,if_neg k3,if_neg k4,if_neg k5,if_neg k6,aC k7];exact⟨rfl,rfl⟩,.uK (hn.ME eP hL)⟩
 have k7:¬x.kind=7:=by simpa using k7
 refine aP (Uu hg hs h hI (by omega) hk (by omega) (by omega)) ?_;rintro _ m1⟨rfl,A',oK,kc,hL,dI⟩;exact⟨_,Cq (tI qt N.A N.s).2,by unfold y4;rw[if_neg n1,if_neg k1,if_neg k2,if_neg k3,if_neg k4,if_neg k5,if_neg k6,if_neg k7];exact⟨A',oK,kc,rfl,rfl,dI⟩,.uK hL⟩
variable {mm p q:aD}{X:Jg}{qt:Int}{N:fw}{j k:Nat}
variable{bf:Nat}
theorem Gs{bs bl:Nat}{s:jf}{lv sv:Value}(h:SR m bs bf s bl lv sv):eN tP 51 [fy bs] m [i64 s.cY]:=by
 refine ub Tryz.func51 ?_;refine xN ?_;refine xM h.o ?_;refine bt (Hr h.lg) ?_;exact rR
def fw.AA(N:fw):fw:={N with B:=N.B.left (N.s.cY:Nat)}
def fw.Nb(N:fw):List gX:=N.B.Nb (N.s.cY:Nat)
def fw.uo(N:fw):fw:={N with B:=N.B.acX (N.s.cY:Nat)}
def fw.BI(N:fw):List Rv:=N.B.BI (N.s.cY:Nat)
theorem Lh(hs:aq mm [p,q])(h:y0 p q X qt N)(hl:N.B.dE.length<=1000):
  bi tP 20 [cx X.a] mm λr m'=>∃v p' q' R,r=[.v v]/\aq m' [p',q']/\cL q q'/\y0 p' q' X qt N.AA/\Ga Yc q' v R/\R.map (·.1)=N.Nb/\∀r∈R,gy q' r.1 r.2:=by
 obtain⟨lv,pr,ps,pf,pb,pl,R,hn⟩:=h.op hs;obtain⟨bl,lv2,sv,AF⟩:=hn.sr;obtain⟨j,hj,bM⟩:=hn.box;refine A4 c20 Tryz.func20 ?_;refine bt (A7 hn.o) ?_;refine xN ?_;refine xM hn.o ?_;refine xM hn.o ?_;refine fU (Gs AF) ?_;refine aP (bi.frame bM (Y0 (cY:=(N.s.cY:Nat)) hj hn.b hl)) ?_;rintro _ m2⟨j',⟨v,S4,q',RR,rfl,h1,h2,h3,h4,h5,h6⟩,bZ⟩;obtain⟨p5,eD,w6⟩:=(hn.aeQ bZ h1 h2 h3).cl;exact⟨v,p5,q',RR,rfl,eD,h2,w6,h4,h5,h6⟩
theorem Hb(hs:aq mm [p,q])(h:y0 p q X qt N)(hl:N.B.o7.length<=1000):
  bi tP 28 [cx X.a] mm λr m'=>∃v p' q' R,r=[.v v]/\aq m' [p',q']/\cL q q'/\y0 p' q' X qt N.uo/\Ga Yd q' v R/\R.map (·.1)=N.BI/\∀r∈R,Ia q' (.slice r.2.1 r.1.l.length r.2.2) r.1.l:=by
 obtain⟨lv,pr,ps,pf,pb,pl,R,hn⟩:=h.op hs;obtain⟨bl,lv2,sv,AF⟩:=hn.sr;obtain⟨j,hj,bM⟩:=hn.box;refine A4 c28 Tryz.func28 ?_;refine bt (A7 hn.o) ?_;refine xN ?_;refine xM hn.o ?_;refine xM hn.o ?_;refine fU (Gs AF) ?_;refine aP (bi.frame bM (Uk (cY:=(N.s.cY:Nat)) hj hn.b hl)) ?_;rintro _ m2⟨j',⟨v,S4,q',RR,rfl,h1,h2,h3,h4,h5,h6⟩,bZ⟩;obtain⟨p5,eD,w6⟩:=(hn.aeQ bZ h1 h2 h3).cl;exact⟨v,p5,q',RR,rfl,eD,h2,w6,h4,h5,h6⟩
variable {mm p q:aD}{X:Jg}{qt:Int}{N:fw}{j k:Nat}
theorem A5(hs:aq mm [p,q])(hNd:y0 p q X qt N)(hll:N.l.length<=500):
  bi tP 13 [cx X.a] mm λr m'=>∃v q' R',r=[.v v]/\aq m' [p,q']/\cL q q'/\y0 p q' X qt N/\Sea q' v R'/\R'.map (·.1)=N.l:=by
 obtain⟨lv,pr,ps,pf,pb,pl,R,hn⟩:=hNd.op hs;have hRl:R.length=N.l.length:=by rw[<-hn.l.e,aH]
 refine ub Tryz.func13 ?_;refine xN ?_;refine⟨_,aF hn.o rfl,hn.one,?_⟩;refine aP (CA (hn.l.o.el.ea.sub (hn.sp.sub)) (by omega)) ?_;rintro _ m1⟨v1,p1,rfl,bM,lZ⟩;obtain⟨av,cv,rfl⟩:=lZ.el.shape;have bM:aq m1 [p1,p,q]:=aq.jN (a:=[p1]) bM hs;refine .mk (ι:=Nat) (λi=>R.length-i) (λi mm=>i<=R.length/\∃p1 q1 Ri,aq mm [p1,p,q1]/\cL q q1/\J8 p1 q1 (.slice av R.length cv) N.l Ri) (λi=>[(3,.c (.v (.slice av R.length cv))),(13,.c (i64 R.length)),(14,.c (i64 i))]) (λ_=>[]) 0 ⟨by omega,p1,q,R,bM,cL.refl _,lZ,hn.l.e,hn.l.a⟩ ?_ ?_
 ·exact Cr
 rintro i m2⟨hi,p2,q2,Ri,bZ,rO,hy⟩;have HP:Ri.length=N.l.length:=by rw[<-hy.e,aH]
 apply bI<;>intro h
 ·have h':=ah h
  have bH:i<R.length:=by omega
  have DP:i<Ri.length:=by omega
  obtain⟨bl,ol,c2,hh,hg⟩:=hy.o.el.ea.real DP;injection hh with eK _ fN;subst eK;have hg:=hg i DP;have hx:=hy.a Ri[i] (aO DP);have oY:=λx u hj hx=>l6.setCell (u:=u) (x:=x) hy.o DP (j:=5) hj hx;have hid:(Ri.set i Ri[i])=Ri:=vG _
  have hmp:∀r:AM,r.1=Ri[i].1->(Ri.set i r).map (·.1)=N.l:=λr h=>by
   rw[<-hy.e,Ap,h];have:=be (List.map (·.1)) hid;rw[Ap]at this;exact this
  generalize hr:Ri[i]=r at*;obtain⟨x,s⟩:=r
  repeat refine xS ?_
  have hc5:gR m2 bl (ol+i*11+5)=some (.slice s.1 x.pl.length s.2):=by
   obtain⟨arr,t,fr,q1,q2⟩:=hg.sub (bZ.sub (a:=p2));exact aF q1 (q2 5 _ rfl)
  refine xL (hc5) ?_;refine aP (ud (hx.pl.sub (bZ.sub (a:=q2))) (bq hx.n (by decide))) ?_;rintro _ m3⟨v3,p3,rfl,dy,UZ⟩;have dy:aq m3 [p3,p2,p,q2]:=aq.jN (a:=[p3]) dy bZ;obtain⟨a3,c3,rfl⟩:=UZ.il.ia.shape;obtain⟨arr,g1,g2,g3⟩:=oY (x,(a3,c3)) (.slice a3 x.pl.length c3) (by omega) rfl;obtain⟨q4,ha,hb,eP⟩:=aq.sK (dy.ir [0,3,1,2]);have eD:aq m3 [p2,p,q4]:=eP.ir [1,2,0]
  repeat refine xS ?_
  refine⟨_,_,_,eD.sub (a:=p2) (by simp) _ _ g1,⟨by simp only[bK,aA];exact g2,by simp⟩,?_⟩;simp only[bK,aA];refine⟨i+1,⟨by omega,_,q4,_,eD.set g1 (.cells (arr.setIfInBounds (ol+i*11+5) (.slice a3 x.pl.length c3)) 63),rO.trans hb,g3,hmp _ rfl,λr hr=>?_⟩,by omega,?_⟩
  ·rcases fa hr with hr|rfl
   ·exact(hy.a r hr).sub hb
   ·exact⟨UZ.il.ia.sub ha,hx.n⟩
  ·exact Cr
 ·have h':=aj h
  obtain⟨q5,ha,hb,eD⟩:=aq.sK (bZ.ir [0,2,1]);exact⟨_,q5,Ri,rfl,eD.ir [1,0],rO.trans hb,hNd.sub (rO.trans hb),hy.o.el.ea.sub ha,hy.e⟩
def agR(c:Rc)(w:Bk)(n:Int)(s:jf)(A:List Af)(nb ns:Nat):fw:=⟨c,w,n,s,A,nb,ns,⟨[],[]⟩,[],0,0⟩
variable{c:Rc}{ns:Nat}{w:Bk}
theorem Uw{pf:aD}{nb kk g K:Nat}{A:List Af}{P R:List Kd}(hg:jZ m)(hs:aq mm [pf,m])(hf:FA pf bf qt nb ns A)(hk:Sm kk A nb ns)(hn:Eg A)(hc:CI qt A g P R K)(hgb:g<=900000)(hq:0<=qt/\qt<=9223372036854775807)(hK:K<=10000000)(hP:P.length+R.length<=20000)(h1:c.ok=true)(h2:w.ok=true)(h3:1<=n/\n<=c.jv):
  bi tP 25 [.a (Sq c w),i64 n,fy bf] mm λr m'=>∃X kc A' p' q',r=[cx X.a,i64 0]/\X.bf=bf/\aq m' [p',q']/\cL m q'/\y0 p' q' X qt (agR c w n (kb g P R K) A' nb kc)/\FI qt A' (kb g P R K)/\kc<=ns+1/\Gr A A' 0/\(bS A (gK g)=none->A'=A):=by
 have aAG:=(Rc.lj.1 h1).1;refine A4 c25 Tryz.func25 ?_;refine bt (qk) ?_;conv=>whnf
 rw[h1,h2];refine xN ?_;apply bI<;>intro h
 ·exfalso
  have:=ah h;omega
 apply bI<;>intro h
 ·exfalso
  have:=ah h;omega
 refine aP (TP hg hs hf hk hn hc hgb hq hK hP) ?_;rintro _ m1⟨bs,kc,A',rfl,hL,HT,NQ,Xe,hA⟩;obtain⟨p1,pf1,q1,bM,mQ,F2,Xg⟩:=hL.toQ.ex;refine xN ?_;refine aP (agh h1) ?_;rintro _ _⟨br,hbr,rfl,rfl⟩;have bZ:=bM.new hbr (eO c 0 0 0 (.slice none 0 0));refine aP (Y1) ?_;rintro _ m3⟨bb,pb,rfl,dy,hB⟩
 try refine⟨λ_ h=>(by cases h),?_⟩
 have eP:aq m3 [pb,blk1 br (eO c 0 0 0 (.slice none 0 0)),p1,pf1,q1]:=aq.jN (a:=[pb]) dy bZ;intro a ha;have eD:=eP.new ha (iq ⟨a,br,bs,bb,bf⟩ (agR c w n (kb g P R K) A' nb kc) (.slice none 0 0));have gC:=eD.cA.ir [1,3,4,5,2,0,6];have hO:nS _ q1 ⟨a,br,bs,bb,bf⟩ qt (agR c w n (kb g P R K) A' nb kc) (.slice none 0 0) (blk1 br (eO c 0 0 0 (.slice none 0 0))) p1 pf1 pb iI []:=⟨gC,.inl (aq.one _),F2,Xg,hB.grow (λx o h=>by simp[iI]at h),Gw.nil _,rfl,by simp⟩;obtain⟨p6,iU,hn7⟩:=hO.cl;exact⟨⟨a,br,bs,bb,bf⟩,kc,A',p6,q1,rfl,rfl,iU,mQ,hn7,HT,NQ,Xe,hA⟩
variable{cs:List Value}
theorem Xv(h:tE m (.xm 32 (.int .u8)) cs):∃d:List Nat,cs=(nc d).map (Value.int .u8)/\d.length=32/\∀x∈d,x<256:=by
 obtain⟨l,rfl,h1,h2⟩:=Sg h
 have e:nc (l.map Int.toNat)=l:=by
  simp only[nc,fS];refine(eu λx hx=>?_).trans (lL l);have:=aiN (h2 x hx)
  grind
 refine⟨l.map Int.toNat,by rw[e],by simpa using h1,λx hx=>?_⟩;obtain⟨y,hy,rfl⟩:=aV.1 hx;have:=aiN (h2 y hy);omega
theorem AK{m:aD}:∀{els:List (List Value)},(∀c∈els,tE m (.xm 32 (.int .u8)) c)->∃D:List (List Nat),els=D.map (λd=>(nc d).map (Value.int .u8))/\D32 D/\∀d∈D,∀x∈d,x<256
 |[],_=>⟨[],rfl,(by intro d hd;cases hd),(by intro d hd;cases hd)⟩
 |c::els,h=>by
  obtain⟨d,rfl,h1,h2⟩:=Xv (h c (by simp));obtain⟨D,rfl,h3,h4⟩:=AK (els:=els) λc hc=>h c (by simp[hc]);refine⟨d::D,rfl,λx hx=>?_,λx hx=>?_⟩
  ·rcases aU.1 hx with rfl|hx
   ·exact h1
   ·exact h3 x hx
  ·rcases aU.1 hx with rfl|hx
   ·exact h2
   ·exact h4 x hx
theorem aeC(h:tE m (.slice (.xm 32 (.int .u8))) cs):∃v D,cs=[v]/\OO m v D/\∀d∈D,∀x∈d,x<256:=by
 obtain⟨v,els,rfl,h1,h2,h3,h4⟩:=h;obtain⟨D,rfl,h5,h6⟩:=AK h3;refine⟨v,D,rfl,?_,h6⟩;rcases h1 with h1|⟨h1,a,rfl⟩
 ·refine .inl ⟨?_,h5⟩
  have e:(D.map λd=>(nc d).map (Value.int .u8)).flatten=IB D:=by rw[IB,List.flatMap]
  rw[e]at h1;exact h1
 ·exact .inr ⟨by simpa using h1,a,rfl⟩
theorem IC(h:tE m (.slice (.int .i64)) cs):∃v l,cs=[v]/\Ia m v l/\∀x∈l,-9223372036854775808<=x/\x<=9223372036854775807:=by
 obtain⟨v,l,rfl,h1,h2,h3,h4⟩:=aac h;exact⟨v,l,rfl,h1,λx hx=>by have:=Tw (h3 x hx);omega⟩
abbrev Wt:Sh:=.jo (.int .i64) (.jo (.int .i64) (.jo (.int .u64) (.jo (.int .i64) .unit)))
abbrev akk:Sh:=.jo (.xm 8 (.int .u64)) (.jo (.slice Wt) .unit)
abbrev age:Sh:=.jo .AS (.jo akk .unit)
abbrev aiZ:Sh:=.jo (.int .i64) (.jo (.int .i64) (.jo (.int .i64) (.jo (.int .i64) (.jo (.int .i64) (.jo (.xm 32 (.int .u8)) (.jo (.slice (.int .i64)) (.jo (.slice (.xm 32 (.int .u8))) (.jo (.slice age) .unit))))))))
abbrev aow:Sh:=.jo (.int .i64) (.jo (.int .i64) (.jo (.int .i64) .unit))
abbrev ai0:Sh:=.jo (.int .i64) (.jo (.int .i64) (.jo .AS (.jo aow (.jo (.int .u64) (.jo aiZ .unit)))))
abbrev Ws:Sh:=.jo (.int .i64) (.jo ai0 (.jo (.slice (.int .i64)) .unit))
theorem abc(h:(Lit.int .i64 n).wf=true):I n:=by
 have:=Tw h;exact⟨this.1,by omega⟩
theorem aif(h:tE m Wt cs):∃e:En,cs=qp e/\CS e:=by
 obtain⟨_,_,rfl,⟨n1,rfl,h1⟩,_,_,rfl,⟨n2,rfl,h2⟩,_,_,rfl,⟨n3,rfl,h3⟩,_,_,rfl,⟨n4,rfl,h4⟩,h5⟩:=h;simp only[tE]at h5;subst h5;exact⟨(n1,n2,n3,n4),rfl,abc h1,abc h2,Tv h3,abc h4⟩
theorem Cx{m:aD}:∀{els:List (List Value)},(∀c∈els,tE m Wt c)->∃E:List En,els.flatten=E.flatMap qp/\E.length=els.length/\∀e∈E,CS e
 |[],_=>⟨[],rfl,rfl,by simp⟩
 |c::els,h=>by
  obtain⟨e,rfl,he⟩:=aif (h c (by simp));obtain⟨E,h1,h2,h3⟩:=Cx (els:=els) λc hc=>h c (by simp[hc]);refine⟨e::E,by rw[dX,dw,h1],by simp[h2],λd hd=>?_⟩;rcases aU.1 hd with rfl|hd
  ·exact he
  ·exact h3 d hd
theorem Si(h:tE m (.slice Wt) cs):∃a c E,cs=[.slice a (E:List En).length c]/\Na m (.slice a E.length c) E/\∀e∈E,CS e:=by
 obtain⟨v,els,rfl,h1,h2,h3,h4⟩:=h;obtain⟨E,e1,e2,e3⟩:=Cx h3
 have hna:Na m v E:=by
  rcases h1 with h1|⟨rfl,a,rfl⟩
  ·rw[e1]at h1;exact .inl h1
  ·exact .inr ⟨cB (by simpa using e2),a,rfl⟩
 obtain⟨a,c,rfl⟩:=hna.shape
 grind
structure aaz(x:Kd):Prop where
 u:yZ x.2.1
 e:∀e∈x.2.2,CS e
theorem al7(h:tE m age cs):∃(r:Rk) (x:Kd),cs=fj r/\pP m r x/\aaz x:=by
 obtain⟨_,_,rfl,⟨k,rfl,_⟩,_,_,rfl,hc,h5⟩:=h;simp only[tE]at h5;subst h5;obtain⟨_,_,rfl,hu,_,_,rfl,he,h6⟩:=hc;simp only[tE]at h6;subst h6;obtain⟨u,rfl,hu1,hu2⟩:=Sg hu;obtain⟨a,c,E,rfl,hE,hEo⟩:=Si he;exact⟨(k,u,(a,E.length,c)),(k,u,E),by simp[fj,yn hu1],⟨rfl,rfl,hu1,hE⟩,⟨hu1,λx hx=>Tv (hu2 x hx)⟩,hEo⟩
theorem EW{m:aD}:∀{els:List (List Value)},(∀c∈els,tE m age c)->∃(R:List Rk) (L:List Kd),els.flatten=R.flatMap fj/\R.length=els.length/\dC m R L/\∀x∈L,aaz x
 |[],_=>⟨[],[],rfl,rfl,dC.nil m,by simp⟩
 |c::els,h=>by
  obtain⟨r,x,rfl,h1,h2⟩:=al7 (h c (by simp));obtain⟨R,L,e1,e2,e3,e4⟩:=EW (els:=els) λc hc=>h c (by simp[hc]);refine⟨r::R,x::L,by rw[dX,dw,e1],by simp[e2],(dC.one h1).append e3,λd hd=>?_⟩;rcases aU.1 hd with rfl|hd
  ·exact h2
  ·exact e4 d hd
theorem aid(h:tE m (.slice age) cs):∃a c L,cs=[.slice a (L:List Kd).length c]/\lu m (.slice a L.length c) L/\(∀x∈L,aaz x)/\L.length<=9223372036854775807:=by
 obtain⟨v,els,rfl,h1,h2,h3,h4⟩:=h;obtain⟨R,L,e1,e2,e3,e4⟩:=EW h3
 have hka:Ka m v R:=by
  rcases h1 with h1|⟨rfl,a,rfl⟩
  ·rw[e1]at h1;exact .inl h1
  ·exact .inr ⟨cB (by simpa using e2),a,rfl⟩
 obtain⟨a,c,rfl⟩:=hka.shape;have hl:=e3.len;refine⟨a,c,L,by rw[hl],⟨R,by rw[<-hl];exact hka,e3⟩,e4,by rw[<-hl,e2];exact h4⟩
structure ary(x:gX):Prop where
 k:∀c∈x.ca,aaz c
 d:XO x
 (l:x.ca.length<=9223372036854775807)
theorem aic(h:tE m aiZ cs):∃(x:gX) (s:iS),cs=LB.cz (x.L s)/\gy m x s/\ary x:=by
 obtain⟨_,_,rfl,⟨n1,rfl,_⟩,_,_,rfl,⟨n2,rfl,_⟩,_,_,rfl,⟨n3,rfl,_⟩,_,_,rfl,⟨n4,rfl,_⟩,_,_,rfl,⟨n5,rfl,_⟩,_,_,rfl,hd,_,_,rfl,hp,_,_,rfl,hg,_,_,rfl,hc,h5⟩:=h;simp only[tE]at h5;subst h5;obtain⟨d,rfl,LW,hd2⟩:=Xv hd;obtain⟨v1,pl,rfl,F2,lE⟩:=IC hp;obtain⟨v2,D,rfl,Ag,hg2⟩:=aeC hg;obtain⟨a3,c3,L,rfl,hc1,hc2,hc3⟩:=aid hc;obtain⟨a1,c1,rfl⟩:=F2.shape;obtain⟨a2,c2,rfl⟩:=Ag.shape;exact⟨⟨n1,n2,n3,n4,n5,d,pl,D,L⟩,⟨(a1,c1),(a2,c2),(a3,c3)⟩,by simp[LB.cz,eB.cells],⟨LW,F2,Ag,hc1⟩,hc2,⟨hd2,hg2⟩,hc3⟩
structure amq(x:vF):Prop where
 m:ary x.AB
 d:0<=x.dr/\x.dr<18446744073709551616
theorem aie(h:tE m ai0 cs):∃(x:vF) (s:iS),cs=LB.cz (x.L s)/\gy m x.AB s/\amq x:=by
 obtain⟨_,_,rfl,⟨n1,rfl,_⟩,_,_,rfl,⟨n2,rfl,_⟩,_,_,rfl,⟨k,rfl,_⟩,_,_,rfl,ho,_,_,rfl,⟨d,rfl,hd⟩,_,_,rfl,hm,h5⟩:=h;simp only[tE]at h5;subst h5;obtain⟨_,_,rfl,⟨o1,rfl,_⟩,_,_,rfl,⟨o2,rfl,_⟩,_,_,rfl,⟨o3,rfl,_⟩,h6⟩:=ho;simp only[tE]at h6;subst h6;obtain⟨x,s,rfl,h1,h2⟩:=aic hm;exact⟨⟨n1,n2,k,(o1,o2,o3),d,x⟩,s,by simp[LB.cz,eB.cells],h1,h2,Tv hd⟩
structure O31 where
 kind:Int
 (x:vF)
 (s:iS)
 (dO:Value)
abbrev agG(o:O31):LB:=.one (.int .i64 o.kind)::(o.x.L o.s++[.one o.dO])
structure O31.Ok(m:aD)(o:O31):Prop where
 (a:gy m o.x.AB o.s)
 r:amq o.x
 l:o.dO.oneCell'=true
theorem aib(h:tE m Ws cs):∃o:O31,cs=LB.cz (agG o)/\o.Ok m:=by
 obtain⟨_,_,rfl,⟨n1,rfl,_⟩,_,_,rfl,hx,_,_,rfl,hl,h5⟩:=h;simp only[tE]at h5;subst h5;obtain⟨x,s,rfl,h1,h2⟩:=aie hx;obtain⟨v,l,rfl,g1,_⟩:=IC hl;exact⟨⟨n1,x,s,v⟩,by simp[LB.cz,eB.cells],h1,h2,g1.one⟩
theorem agE{o:O31}(h:o.Ok m):(LB.cz (agG o)).length=49:=by simp[LB.cz,eB.cells,h.a.Th]
theorem Cw{m:aD}:∀{els:List (List Value)},(∀c∈els,tE m Ws c)->∃O:List O31,els=O.map (λo=>LB.cz (agG o))/\∀o∈O,o.Ok m
 |[],_=>⟨[],rfl,by simp⟩
 |c::els,h=>by
  obtain⟨o,rfl,ho⟩:=aib (h c (by simp));obtain⟨O,rfl,h2⟩:=Cw (els:=els) λc hc=>h c (by simp[hc]);refine⟨o::O,rfl,λd hd=>?_⟩;rcases aU.1 hd with rfl|hd
  ·exact ho
  ·exact h2 d hd
structure V9(m:aD)(v:Value)(O:List O31):Prop where
 ok:∀o∈O,o.Ok m
 sh:∃a c,v= .slice a O.length c
 el:∀i (h:i<O.length),∃b o c,v= .slice (some ⟨b,o,none⟩) O.length c/\∀j (hj:j<O.length),dQ m b (o+j*49) (LB.cz (agG O[j]))
theorem V9.sub{O:List O31}(h:V9 m v O)(hs:cL m m'):V9 m' v O:=
 ⟨λo ho=>⟨(h.ok o ho).a.sub hs,(h.ok o ho).r,(h.ok o ho).l⟩,h.sh,λi hi=>by
  obtain⟨b,o,c,e1,e2⟩:=h.el i hi
  exact⟨b,o,c,e1,λj hj=>(e2 j hj).sub hs⟩⟩
theorem aeB(h:tE m (.slice Ws) cs):∃v O,cs=[v]/\V9 m v O/\O.length<=9223372036854775807:=by
 obtain⟨v,els,rfl,h1,h2,h3,h4⟩:=h;obtain⟨O,rfl,hO⟩:=Cw h3;rw[aH]at h2 h4;refine⟨v,O,rfl,⟨hO,?_,λi hi=>?_⟩,h4⟩
 ·rcases h1 with h1|⟨h1,a,rfl⟩
  ·rcases h1 with⟨c,rfl,_⟩|⟨b,o,c,n,arr,t,fr,rfl,_⟩
   ·exact⟨none,c,by rw[<-h2];rfl⟩
   ·exact⟨_,c,by rw[<-h2];rfl⟩
  simp_all
 ·rcases h1 with h1|⟨h1,a,rfl⟩
  ·obtain⟨b,o,c,e1,e2⟩:=gq.elem (s:=49) h1 (λc hc=>by
    obtain⟨o,ho,rfl⟩:=aV.1 hc
    exact agE (hO o ho)) (by decide) (by rw[aH];exact h2) (i:=i) (by rw[aH];exact hi)
   grind
  simp_all
theorem Od{u:List Int}{a:Option Addr}{n c:Nat}:eN tP 204 [iY u a n c] m [bR (decide (60<n))]:=by
 refine ub Tryz.func204 ?_;have e:decide ((60:Int)<(n:Int))=decide (60<n):=fF.2 (by omega);exact⟨by rw[<-e],rfl⟩
def smK(L:List Kd):Prop:=L.length<=30/\∀x∈L,x.1.size<=100/\x.2.2.length<=60
theorem Oc{L:List Kd}(hv:lu m v L)(hl:L.length<=9223372036854775807):bi tP 122 [.v v] m λr m'=>∃g,r=[bR g]/\m'=m/\(g=false->smK L):=by
 obtain⟨R,hR,hK⟩:=hv;have hlen:=hK.len;obtain⟨av,cv,rfl⟩:=hR.shape;refine ub Tryz.func122 ?_;refine .mk (ι:=Nat) (λi=>R.length-i) (λi mm=>i<=R.length/\mm=m/\(0<i->L.length<=30)/\∀x∈L.take i,x.1.size<=100/\x.2.2.length<=60) (λi=>[(0,.c (.v (.slice av R.length cv))),(3,.c (i64 i))]) (λ_=>[]) 0 ⟨by omega,rfl,by omega,by simp⟩ ?_ ?_
 ·exact Cr
 rintro i mm⟨hi,he,h30,cM⟩;subst mm;apply bI<;>intro h
 ·have h':=ah h
  have bH:i<R.length:=by omega
  obtain⟨b2,ol,c',hh,js⟩:=hR.real bH;injection hh with eK _ fN;subst eK;have js:=js i bH;have hx:=hK.je i bH (by omega);have dI:L.take (i+1)=L.take i++[L[i]'(by omega)]:=au (by omega);generalize R[i]=r at*;generalize L[i]'(by omega)=x at*;have zu:=hx.len;obtain⟨xk,xu,xE⟩:=x;obtain⟨rk,ru,ra,rn,rc⟩:=r;obtain⟨g1,g2,g3,g4⟩:=hx;simp only at g1 g2 g3 g4 zu;subst g1 g2 zu;have JR:=fZ (j:=0) js rfl;have U7:=dQ.tail (k:=1) js
  have ee:List.drop 1 (fj (rk,ru,(ra,xE.length,rc)))=LB.cz [.bG .u64 8 ru,.one (.slice ra xE.length rc)]:=by
   simp[fj,yn g3,LB.cz,eB.cells]
  rw[ee]at U7;apply bI<;>intro h
  ·exact⟨true,rfl,rfl,λh=>by cases h⟩
  have aBU:R.length<=30:=by have:=aj h;omega
  repeat refine xS ?_
  refine xL (JR) ?_;apply bI<;>intro h
  ·exact⟨true,rfl,rfl,λh=>by cases h⟩
  have apW:rk.size<=100:=by
   have h':¬(100:Int)<(rk.size:Int):=aj h;omega
  repeat refine xS ?_
  refine⟨[.bG .u64 8 ru,.one (.slice ra xE.length rc)],⟨g3,rfl,trivial⟩,rfl,by simp only[bK,aA];exact U7,?_⟩;refine bt (Od) ?_;apply bI<;>intro h
  ·exact⟨true,rfl,rfl,λh=>by cases h⟩
  have h60:xE.length<=60:=by have:=aj h;omega
  refine⟨i+1,⟨by omega,rfl,λ_=>by omega,λx hx=>?_⟩,by omega,?_⟩
  ·rw[dI]at hx
   rcases aR.1 hx with hx|hx
   ·exact cM x hx
   ·rw[aL.1 hx];exact⟨apW,h60⟩
  ·exact Cr
 ·have h':=aj h
  obtain rfl:i=R.length:=by omega
  refine⟨false,rfl,rfl,λ_=>?_⟩;rw[hlen,aJ]at cM;refine⟨?_,cM⟩;by_cases h0:0<R.length
  ·exact h30 h0
  ·omega
structure SmM(y:gX):Prop where
 (p:y.pl.length<=60)
 d:y.dg.length<=60
 (c:smK y.ca)
theorem Ob(hy:gy m y s)(hl:y.ca.length<=9223372036854775807):bi tP 61 [mT y s] m λr m'=>∃g,r=[bR g]/\m'=m/\(g=false->SmM y):=by
 refine ub Tryz.func61 ?_;apply bI<;>intro h
 ·exact⟨true,rfl,rfl,λh=>by cases h⟩
 have h1:y.pl.length<=60:=by have:=aj h;omega
 apply bI<;>intro h
 ·exact⟨true,rfl,rfl,λh=>by cases h⟩
 have h2:y.dg.length<=60:=by have:=aj h;omega
 refine aP (Oc hy.ca hl) ?_;rintro _ m1⟨g,rfl,rfl,hg⟩;exact⟨g,rfl,rfl,λh=>⟨h1,h2,hg h⟩⟩
theorem NZ(hy:gy m x.AB s)(hl:x.AB.ca.length<=9223372036854775807):bi tP 26 [JD x s] m λr m'=>∃g,r=[bR g]/\m'=m/\(g=false->x.key.size<=100/\SmM x.AB):=by
 refine ub Tryz.func26 ?_;apply bI<;>intro h
 ·exact⟨true,rfl,rfl,λh=>by cases h⟩
 have h1:x.key.size<=100:=by
  have h':¬(100:Int)<(x.key.size:Int):=aj h;omega
 refine aP (Ob hy hl) ?_;rintro _ m1⟨g,rfl,rfl,hg⟩;exact⟨g,rfl,rfl,λh=>⟨h1,hg h⟩⟩
def SmO(O:List O31):Prop:=O.length<=40/\∀o∈O,o.x.key.size<=100/\SmM o.x.AB
theorem NY{O:List O31}(hv:V9 m v O)(hl:O.length<=9223372036854775807):bi tP 7 [.v v] m λr m'=>∃g,r=[bR g]/\m'=m/\(g=false->SmO O):=by
 obtain⟨av,cv,rfl⟩:=hv.sh;refine ub Tryz.func7 ?_;refine .mk (ι:=Nat) (λi=>O.length-i) (λi mm=>i<=O.length/\mm=m/\(0<i->O.length<=40)/\∀o∈O.take i,o.x.key.size<=100/\SmM o.x.AB) (λi=>[(0,.c (.v (.slice av O.length cv))),(3,.c (i64 i))]) (λ_=>[]) 0 ⟨by omega,rfl,by omega,by simp⟩ ?_ ?_
 ·exact Cr
 rintro i mm⟨hi,he,h40,cM⟩;subst mm;apply bI<;>intro h
 ·have h':=ah h
  have bH:i<O.length:=by omega
  obtain⟨b2,ol,c',hh,js⟩:=hv.el i bH;injection hh with eK _ fN;subst eK;have js:=js i bH;have ho:=hv.ok O[i] (aO bH);have dI:O.take (i+1)=O.take i++[O[i]]:=au bH;generalize O[i]=o at*
  have U7:dQ m b2 (ol+i*49+1) (LB.cz (o.x.L o.s)):=by
   obtain⟨arr,t,fr,g1,g2⟩:=js;refine⟨arr,t,fr,g1,λjj u hu=>?_⟩
   have:=g2 (1+jj) u (by
    show(Value.int .i64 o.kind::LB.cz (o.x.L o.s++[.one o.dO]))[1+jj]?=some u
    rw[uG 1 jj,Fv,LB.jW,aT (aQ.1 hu).1]
    exact hu)
   rw[show ol+i*49+1+jj=ol+i*49+(1+jj) by omega];exact this
  apply bI<;>intro h
  ·exact⟨true,rfl,rfl,λh=>by cases h⟩
  have avF:O.length<=40:=by have:=aj h;omega
  repeat refine xS ?_
  refine⟨o.x.L o.s,WW ho.a.Th,rfl,by simp only[bK,aA];exact U7,?_⟩;refine aP (NZ ho.a ho.r.m.l) ?_;rintro _ m1⟨g,rfl,rfl,Xe⟩
  cases g with
  |true=>
   refine xY ?_;exact⟨true,rfl,rfl,λh=>by cases h⟩
  |false=>
   refine xN ?_;refine⟨i+1,⟨by omega,rfl,λ_=>avF,λz hz=>?_⟩,by omega,?_⟩
   ·rw[dI]at hz
    rcases aR.1 hz with hz|hz
    ·exact cM z hz
    ·rw[aL.1 hz];exact Xe rfl
   ·exact Cr
 ·have h':=aj h
  obtain rfl:i=O.length:=by omega
  refine⟨false,rfl,rfl,λ_=>?_⟩;rw[aJ]at cM;refine⟨?_,cM⟩;by_cases h0:0<O.length
  ·exact h40 h0
  ·omega
theorem al1{bm:Nat}{q:Int}(h:aq m [blk1 bf (jd q bm 0 0),blk1 bm (mU [] 0)]):FA m bf q 0 0 []:=⟨bm,0,[],⟨h,by simp,by simp,by simp⟩,rfl⟩
theorem Qk{q:Int}(h:0<=q):bi tP 27 [i64 q] m λr m'=>∃bf p,r=[fy bf,i64 0]/\aq m' [p,m]/\FA p bf q 0 0 []:=by
 refine A4 c27 Tryz.func27 ?_;refine⟨λh'=>absurd (ah h') (by omega),λ_=>?_⟩;refine .mk _ (wh (enc:=Value.string)) ?_;rintro _ m1⟨bm,EO,rfl,rfl⟩;intro bf hbf;have hs:=((aq.one m).new EO (mU [] 0)).new hbf (jd q bm 0 0);have hs:=hs.fm (l':=[m,blk1 bf (jd q bm 0 0),blk1 bm (mU [] 0)]) (by exact(List.Perm.cons _ (List.Perm.swap _ _ _)).trans (List.Perm.swap _ _ _));exact⟨bf,_,rfl,(aq.fb hs).1,al1 (aq.fb hs).2⟩
variable {mm p q:aD}{X:Jg}{qt:Int}{N:fw}{j k:Nat}
def vA(r:Int):Rc:=⟨3,4,r⟩
def Rl:Bk:=⟨1,4,3,0⟩
theorem yQ:eN tP 17 [] m [.a (Sq (vA 2) Rl)]:=by
 refine ub Tryz.func17 ?_;exact rR
def N0(r n:Int)(ns:Nat):fw:=agR (vA r) Rl n ⟨0,[],[],0,0⟩ [] 0 ns
theorem X4:dN [] 0=0:=by have:=uN [] 0;simpa using this
theorem ame(q:Int):CI q [] 0 [] [] 0 where
 gp:=by simp
 gr:=by simp
 gb:=by omega
 sn:=by omega
 s0:=λ_=>rfl
 lg:=.inl ⟨rfl,rfl,rfl⟩
 nl:=λ_ _ _=>rfl
 nn:=λ_ _ _=>rfl
 qt:=λh=>by simp[iP];omega
variable{r:Int}
theorem Ql{pf:aD}(hg:jZ m)(hs:aq mm [pf,m])(hf:FA pf bf qt 0 0 [])(hq:0<=qt/\qt<=9223372036854775807)(hr:1<=r/\r<=3)(hn:1<=n/\n<=3):
  bi tP 25 [.a (Sq (vA r) Rl),i64 n,fy bf] mm λrr m'=>∃X kc p' q',rr=[cx X.a,i64 0]/\X.bf=bf/\aq m' [p',q']/\cL m q'/\y0 p' q' X qt (N0 r n kc)/\pO qt 0 2 (N0 r n kc):=by
 have ez:(vA r).ok=true:=Rc.lj.2 ⟨by simp[vA],by simp[vA],by simp[vA];omega⟩;refine(Uw (kk:=1000) (n:=n) (w:=Rl) hg hs hf ⟨by simp,by simp,by omega,by omega,by omega⟩ (λa ha=>by simp at ha) (ame qt) (by omega) hq (by omega) (by simp) ez (by decide) ⟨hn.1,by simp[vA];omega⟩).mono λrr m' ⟨X,kc,A',p',q',h1,h2,h3,h4,h5,h6,h7,h8,h9⟩=>?_;have hA:=h9 rfl;subst hA;have ho:kb 0 [] [] 0=⟨0,[],[],0,0⟩:=by unfold kb;rw[X4];rfl
 rw[ho]at h5 h6;exact⟨X,kc,p',q',h1,h2,h3,h4,h5,h6,hq,by show 0+0<=0;omega,by show ∀a∈([]:List Af),_;simp,by show 0+(if ([]:List Kd)=[]then 1 else 0)<=2;simp,by show 0<=_;omega,by show kc<=2;omega,(λa ha=>by cases ha),by show 0+1<=2;omega⟩
theorem OF(hg:jZ m)(hq:0<=qt/\qt<=9223372036854775807)(hn:1<=n/\n<=3):
  bi tP 9 [i64 n,i64 qt] m λrr m'=>∃X kc p' q',rr=[cx X.a,fy X.bf]/\aq m' [p',q']/\cL m q'/\y0 p' q' X qt (N0 2 n kc)/\pO qt 0 2 (N0 2 n kc):=by
 refine ub Tryz.func9 ?_;refine aP (Qk hq.1) ?_;rintro _ m1⟨bf,pf,rfl,bM,hf⟩;refine bt (yQ) ?_;refine aP (Ql (n:=n) (r:=2) hg bM hf hq (by omega) hn) ?_;rintro _ m2⟨X,kc,p',q',rfl,hb,bZ,rO,kV,hI2⟩;obtain⟨lv,pr,ps,pf',pb,pl,R,hO⟩:=kV.op bZ;refine xN ?_;refine xN ?_;refine xN ?_;refine bt (yg hO.o) ?_;refine xN ?_;subst hb;exact⟨X,kc,p',q',rfl,bZ,rO,kV,hI2⟩
variable {qt:Int}{N N':fw}{j k:Nat}
theorem pO.eq(h:pO qt j k N)(hs:N'.s=N.s)(hA:N'.A=N.A)(hb:N'.nb=N.nb)(hn:N'.ns=N.ns):pO qt j k N':=by
 obtain⟨h1,h2,h3,h4,h5,h6,h7,h8,h9⟩:=h;rw[<-hs,<-hA]at h1;rw[<-hs]at h3 h9;rw[<-hA]at h4 h8;rw[<-hA,<-hs]at h5;rw[<-hb]at h6;rw[<-hn]at h7;exact⟨h1,h2,h3,h4,h5,h6,h7,h8,h9⟩
theorem pO.box{n:Nat}(h:pO qt j k N)(hb:y7 N N' n):pO qt j k N':=by
 have e:=hb.e;exact h.eq (by rw[e]) (by rw[e]) (by rw[e]) (by rw[e])
structure OP(N N':fw):Prop where
 c:N'.c=N.c
 w:N'.w=N.w
 n:N'.n=N.n
theorem OP.refl(N:fw):OP N N:=⟨rfl,rfl,rfl⟩
theorem OP.trans(h:OP N N')(h':OP N' M):OP N M:=⟨h'.c.trans h.c,h'.w.trans h.w,h'.n.trans h.n⟩
theorem y7.fix{n:Nat}(h:y7 N N' n):OP N N':=by rw[h.e];exact⟨rfl,rfl,rfl⟩
theorem GU(qt:Int)(L:List Kd)(N:fw):OP N (N.fT qt L).1:=by rw[vW];exact⟨rfl,rfl,rfl⟩
structure ON(x:vF):Prop where
 r:amq x
 (s:SmM x.AB)
theorem aaz.arg{x:Kd}(h:aaz x)(hl:x.2.2.length<=60):jg x:=⟨h.u,h.e,by omega⟩
theorem ON.ca(h:ON x):∀c∈x.AB.ca,jg c:=λc hc=>(h.r.m.k c hc).arg (h.s.c.2 c hc).2
theorem ON.at(h:ON x)(hk:x.key.size<=100)(ha:gy m x.AB s):vC m x s:=
 ⟨ha,⟨h.ca,λc hc=>by have:=(h.s.c.2 c hc).1;omega,λc hc=>by have:=(h.s.c.2 c hc).2;omega,by have:=h.s.c.1;omega,by have:=h.s.p;omega,by have:=h.s.d;omega⟩,by omega⟩
structure Nx(qt:Int)(j k:Nat)(N N':fw):Prop where
 i:pO qt j k N'
 (f:OP N N')
theorem acv(h:pO qt j k N)(x:kl):Nx qt j k N (N.CR x):=⟨h.box (rp N x),(rp N x).fix⟩
theorem WC(h:pO qt j k M)(hf:OP N M)(x:kl):Nx qt j k N (M.CR x):=⟨(acv h x).i,hf.trans (acv h x).f⟩
theorem OP.same(h:OP N N')(hc:M.c=N'.c)(hw:M.w=N'.w)(hn:M.n=N'.n):OP N M:=⟨hc.trans h.c,hw.trans h.w,hn.trans h.n⟩
theorem UC{A:List Af}{s:jf}{x:Kd}(h:yp qt A s x=true):rq qt A s (x.1,(jw s x).1)=0/\(jw s x).2=0:=by
 unfold yp at h
 grind
theorem acx(h:pO qt j k N){x:Kd}(hx:jg x):Nx qt (j+1) k N (A9 qt N x).1:=by
 unfold A9;dsimp only;split
 ·rename_i hb
  obtain⟨h1,h2⟩:=UC hb;have ha:=xH (k:=x.1) (qo (λy hy=>(h.gl y hy).arg) x.1) hx h2;exact⟨h.put ha.u h1,rfl,rfl,rfl⟩
 ·exact⟨h.up (by omega) (by omega),.refl _⟩
theorem Y5(h:pO qt j k N)(Vf:∀x∈y.ca,jg x)(hr:dR y=true)(hl:N.s.L.length+y.ca.length<=1333):Nx qt (j+y.ca.length) k N (qc qt N y).1:=by
 have hA:∀x∈N.s.L,jg x:=λx hx=>(h.gl x hx).arg;unfold qc;by_cases h0:(tC N.s.L y).2.2=0
 ·have WZ:=(XJ hA hr Vf hl h0).2
  have h1:=h.fT (L:=(tC N.s.L y).2.1) λx hx=>(WZ.a x hx).u;have h2:=h1.up (j':=j+y.ca.length) (k':=k) (by have:=WZ.l;omega) (by omega);rw[if_neg (by simp[h0])];split
  ·exact⟨h2,GU _ _ _⟩
  ·exact⟨h2.eq rfl rfl rfl rfl,(GU _ _ _).trans ⟨rfl,rfl,rfl⟩⟩
 ·rw[aC h0]
  exact⟨h.up (by omega) (by omega),.refl _⟩
theorem agJ(h:pO qt j k N)(Vf:∀x∈y.ca,jg x):Nx qt (j+y.ca.length) k N (vf qt N y).1:=by
 have hA:∀x∈N.s.L,jg x:=λx hx=>(h.gl x hx).arg;have WZ:=C8 hA Vf;have h1:=h.fT (L:=(gn N.s.L y.ca).2) λx hx=>(WZ.a x hx).u;have h2:=h1.up (j':=j+y.ca.length) (k':=k) (by have:=WZ.l;omega) (by omega);have hf:=GU qt (gn N.s.L y.ca).2 N;have hz:Nx qt (j+y.ca.length) k N N:=⟨h.up (by omega) (by omega),.refl _⟩;unfold vf;split
 ·exact hz
 ·unfold DS
  split
  ·exact hz
  split
  ·exact hz
  split
  ·exact⟨h2,hf⟩
  split
  ·exact⟨h2.eq rfl rfl rfl rfl,hf.trans ⟨rfl,rfl,rfl⟩⟩
  ·show Nx qt _ k N (fw.CR _ _)
   refine WC ?_ ?_ _
   ·exact pO.eq h2 rfl rfl rfl rfl
   ·exact hf.same rfl rfl rfl
theorem acy(h:pO qt j k N)(Vf:∀x∈y.ca,jg x)(hr:dR y=true)(hn:y.ca.length<=30)(hl:j<=1300):Nx qt (j+31) k N (mK qt N y).1:=by
 have hz:Nx qt (j+31) k N N:=⟨h.up (by omega) (by omega),.refl _⟩;unfold mK;split
 ·exact hz
 split
 ·exact hz
 split
 ·have:=Y5 h Vf hr (by have:=h.ll;omega)
  exact⟨this.i.up (by omega) (by omega),this.f⟩
 split
 ·split
  ·rename_i x _ e
   have:=acx h (Vf x (by rw[e];simp));exact⟨this.i.up (by omega) (by omega),this.f⟩
  ·exact hz
 ·have:=agJ h Vf
  exact⟨this.i.up (by omega) (by omega),this.f⟩
theorem Nh(h:pO qt j k N):Nx qt j k N (lO N).1:=by
 unfold lO;split
 ·exact⟨h,.refl _⟩
 ·have hb:=vM (N.bQ+1) N.l (N.at (N.bQ+1),[])
  have h1:pO qt j k (N.at (N.bQ+1)):=h.eq rfl rfl rfl rfl;have hf:OP N (N.l.foldl (Au (N.bQ+1)) (N.at (N.bQ+1),[])).1:=OP.trans (N':=N.at (N.bQ+1)) ⟨rfl,rfl,rfl⟩ hb.fix;exact⟨(h1.box hb).eq rfl rfl rfl rfl,hf.same rfl rfl rfl⟩
theorem agK(h:pO qt j k N)(d:Int):Nx qt j k N (oC N d).1:=by
 unfold oC;split
 ·exact⟨h,.refl _⟩
 split
 ·exact⟨h,.refl _⟩
 split
 ·exact⟨h,.refl _⟩
 ·show Nx qt _ k N (fw.CR _ _)
  refine WC ?_ ?_ _
  ·exact pO.eq h rfl rfl rfl rfl
  ·exact(OP.refl N).same rfl rfl rfl
theorem acw(h:pO qt j k N)(hT:NdT N)(hm:E8 x.op.1 x.op.2.1 x.op.2.2=true):Nx qt (j+1) k N (lW qt N x).1:=by
 have hz:Nx qt (j+1) k N N:=⟨h.up (by omega) (by omega),.refl _⟩;have hg:=qo (λy hy=>(h.gl y hy).arg) x.key;have ha:=Xt (k:=x.key) (u:=(gh N.s.L x.key).1) (E:=(gh N.s.L x.key).2) hg.u hg.e hg.n hT.n8 (ajf hm);unfold lW;split
 ·exact hz
 split
 ·exact hz
 split
 ·exact hz
 ·rename_i hp
  have hp:rq qt N.A N.s (x.key,(Jc (gh N.s.L x.key) N.n x.op).1)=0:=by simpa using hp
  have h1:=h.put ha.u hp;have hb:=rL (x.key,(Jc (gh N.s.L x.key) N.n x.op).1) (ko N.c x.key N.n) ((N.put (x.key,(Jc (gh N.s.L x.key) N.n x.op).1)).nX ⟨x.id,0,[]⟩);exact⟨(h1.eq (N':=(N.put (x.key,(Jc (gh N.s.L x.key) N.n x.op).1)).nX ⟨x.id,0,[]⟩) rfl rfl rfl rfl).box hb,OP.trans (N':=(N.put (x.key,(Jc (gh N.s.L x.key) N.n x.op).1)).nX ⟨x.id,0,[]⟩) ⟨rfl,rfl,rfl⟩ hb.fix⟩
theorem agI(h:pO qt j k N)(x:vF):Nx qt j k N (qj N x).1:=by
 unfold qj;split
 ·exact⟨h,.refl _⟩
 ·exact⟨h.eq rfl rfl rfl rfl,⟨rfl,rfl,rfl⟩⟩
theorem agH(h:pO qt j k N){kc:Nat}(hn:kc<=N.ns+1):Nx qt j (k+2) N {N with s:=N.s.Gj,A:=jU N.A (gK N.s.g),ns:=kc}:=by
 have hnb:=h.nb;have NQ:=h.ns;refine⟨⟨h.fi.akd,h.qr,h.rl,(uO N.A _).l _ h.al,?_,?_,?_,Hg _ h.nm,?_⟩,rfl,rfl,rfl⟩
 ·show(jU N.A _).length+(if N.s.R=[]then 1 else 0)<=_
  have:=h.an;rw[jU,aH];omega
 ·grind
 ·grind
 ·show N.s.g+1<=_
  have:=h.g;omega
theorem acz(h:pO qt j k N):Nx qt j k N {N with s:=if sU N.s=0 then N.s.at 1 else N.s}:=by
 by_cases h0:sU N.s=0
 ·rw[aC h0]
  have h1:¬(0<N.s.st\/N.s.cY≠N.s.R.length):=λh2=>by rw[sU,aC h2]at h0;cases h0
  simp only[not_or,lM]at h1;exact⟨⟨h.fi.begin (by omega) h1.2,h.qr,h.rl,h.al,h.an,h.nb,h.ns,h.nm,h.g⟩,rfl,rfl,rfl⟩
 ·rw[if_neg h0]
  exact⟨h.eq rfl rfl rfl rfl,rfl,rfl,rfl⟩
variable{y:XL}
theorem aoU(h:pO qt j k N)(hT:NdT N)(hj:j<=1300)(hx:ON x)(hd:y4 qt N x N' y):Nx qt (j+31) (k+2) N N':=by
 have up:∀{M:fw}{j' k':Nat},Nx qt j' k' N M->j'<=j+31->k'<=k+2->Nx qt (j+31) (k+2) N M:=λhm h1 h2=>⟨hm.i.up h1 h2,hm.f⟩;have hz:Nx qt j k N N:=⟨h,.refl _⟩;unfold y4 at hd
 split at hd
 ·obtain⟨rfl,_⟩:=hd
  exact up hz (by omega) (by omega)
 rename_i hr
 have ez:S5 x=true:=by
  have:aaL x=true:=by simpa using hr
  unfold aaL at this;rw[aB]at this;exact this.1
 unfold S5 at ez
 split at hd
 ·rename_i h1
  rw[aC h1,aB]at ez;have e:N'=(lW qt N x).1:=by rw[<-hd]
  rw[e];exact up (acw h hT ez.2) (by omega) (by omega)
 rename_i h1;rw[if_neg h1]at ez
 split at hd
 ·have e:N'=(qj N x).1:=by rw[<-hd]
  rw[e];exact up (agI h x) (by omega) (by omega)
 rename_i h2;rw[if_neg h2]at ez
 split at hd
 ·rw[hd.1]
  exact up (Nh h) (by omega) (by omega)
 split at hd
 ·rw[hd.1]
  exact up (agK h x.dr) (by omega) (by omega)
 split at hd
 ·rename_i h5
  rw[aC h5]at ez;rw[hd.1];exact up (acy h hx.ca ez (hx.s.c.1) hj) (by omega) (by omega)
 split at hd
 ·obtain⟨kc,h6,rfl,_⟩:=hd
  exact up (agH h h6) (by omega) (by omega)
 split at hd
 ·rw[hd.1]
  exact up (acz h) (by omega) (by omega)
 ·obtain⟨A',oK,kc,rfl,_,h8⟩:=hd
  exact up ⟨h.KI h8.f h8.nb h8.ns h8.gr hj,rfl,rfl,rfl⟩ (by omega) (by omega)
variable {qt:Int}{N N':fw}{j k:Nat}
structure SB(s t:kl):Prop where
 i:t.id=s.id
 (se:t.tg=s.tg)
 p:t.jV=s.jV
 pa:t.part=s.part
theorem My(s:kl)(bQ:Int):SB s (kX s bQ).1:=by
 unfold kX
 repeat' split
 all_goals exact⟨rfl,rfl,rfl,rfl⟩
theorem ahR(s:kl)(L:List Kd)(y:gX)(bQ:Int)(h:(jk s L y bQ).2=true):SB s (jk s L y bQ).1:=by
 unfold jk at h⊢
 repeat' split
 all_goals first|exact⟨rfl,rfl,rfl,rfl⟩|(exfalso;simp_all;done)|skip
structure afg(N:fw)(s:kl):Prop where
 (se:s.tg=N.n)
 pn:s.jV≠N.n
 p:1<=s.jV/\s.jV<=N.c.jv
 (r:1<=s.round)
 i:s.id<=N.dO
def Mp(a b:kl):Prop:=a.jV≠b.jV/\a.id<b.id
structure SI(N:fw):Prop where
 ok:∀s∈N.l,afg N s
 ap:N.l.Pairwise Mp
theorem FC(bQ:Int):∀(l:List kl) (a:fw×List kl),(l.foldl (Au bQ) a).2=a.2++((l.map λs=>(kX s bQ).1).filter λt=>decide (0<t.round))
 |[],a=>by simp
 |s::l,a=>by
  rw[gd,FC bQ l];unfold Au;simp only[aZ,mO];split
  ·rename_i h;rw[aC (by simpa using h)];simp
  ·rename_i h;rw[if_neg (by simpa using h)]
theorem aga(h:SI N):SI (lO N).1:=by
 unfold lO;split
 ·exact h
 have hb:=vM (N.bQ+1) N.l (N.at (N.bQ+1),[]);have h2:=FC (N.bQ+1) N.l (N.at (N.bQ+1),[]);rw[bV]at h2;have e:=hb.e;generalize N.l.foldl (Au (N.bQ+1)) (N.at (N.bQ+1),[])=Z at*;obtain⟨M,l⟩:=Z;simp only at h2 e⊢;subst h2;refine⟨λt ht=>?_,?_⟩
 ·obtain⟨ht,hr⟩:=cH.1 ht
  obtain⟨s,hs,rfl⟩:=aV.1 ht;have h1:=h.ok s hs;have h3:=My s (N.bQ+1);have hr:=ah hr;refine⟨?_,?_,?_,by omega,?_⟩
  ·show _=M.n;rw[e,h3.se];exact h1.se
  ·show _≠M.n;rw[e,h3.p];exact h1.pn
  ·show _/\_<=M.c.jv;rw[e,h3.p];exact h1.p
  ·show _<=M.dO;rw[e,h3.i];exact h1.i
 ·show(List.filter _ (List.map _ N.l)).Pairwise Mp
  refine List.Pairwise.filter _ ?_;rw[cG]
  exact h.ap.imp λ{a b} hab=>by
   have h3:=My a (N.bQ+1);have h4:=My b (N.bQ+1);exact⟨by rw[h3.p,h4.p];exact hab.1,by rw[h3.i,h4.i];exact hab.2⟩
theorem SI.eq(h:SI N)(hn:N'.n=N.n)(hc:N'.c=N.c)(hl:N'.l=N.l)(AG:N'.dO=N.dO):SI N':=by
 refine⟨λs hs=>?_,by rw[hl];exact h.ap⟩;rw[hl]at hs;have h1:=h.ok s hs;exact⟨by rw[hn];exact h1.se,by rw[hn];exact h1.pn,by rw[hc];exact h1.p,h1.r,by rw[AG];exact h1.i⟩
theorem SI.box{n:Nat}(h:SI N)(hb:y7 N N' n):SI N':=by
 have e:=hb.e;exact h.eq (by rw[e]) (by rw[e]) (by rw[e]) (by rw[e])
theorem SI.fT(h:SI N)(qt:Int)(L:List Kd):SI (N.fT qt L).1:=by
 have e:=vW qt L N;exact h.eq (by rw[e]) (by rw[e]) (by rw[e]) (by rw[e])
theorem ack{l:List Int}(h:(lV l d).2=0):(lV l d).1∈l:=by
 unfold lV at h⊢
 split at h
 ·cases h
 ·rename_i h0
  rw[if_neg h0];have bH:d.toNat%l.length<l.length:=fo _ (by omega)
  grind
theorem acl{x:Int}(h:x∈kw c a):1<=x/\x<=c.jv:=by
 have h1:=(cH.1 h).1
 grind
structure arG(N:fw)(d:Int)(x:kl):Prop where
 i:x.id=N.dO+1
 (se:x.tg=N.n)
 p:x.jV=(lV (kw N.c N.n) d).1
 pn:x.jV≠N.n
 (r:x.round=1)
theorem VE(h:(qs N d).2=0):arG N d (qs N d).1:=by
 unfold qs uD at h⊢
 split at h
 ·rename_i h1
  rw[aC h1];rw[aB]at h1;have h2:=h1.2;unfold gx at h2;simp only[aB,bne_iff_ne]at h2;exact⟨rfl,rfl,rfl,λe=>h2.1.2.2 e.symm,rfl⟩
 ·cases h
theorem agc(h:SI N)(d:Int):SI (oC N d).1:=by
 unfold oC;split
 ·exact h
 rename_i h1;split
 ·exact h
 rename_i h2;split
 ·exact h
 rename_i h3;have hb:=VE (N:=N) (d:=d) (by simpa using h3);have hp:=acl (ack (l:=kw N.c N.n) (d:=d) (by simpa using h1));generalize (qs N d).1=x at*
 show SI ((N.add x).CR x)
 refine SI.box ?_ (rp _ _);refine⟨λs hs=>?_,?_⟩
 ·rcases aR.1 (show s∈N.l++[x] from hs)with hs|hs
  ·have h4:=h.ok s hs
   exact⟨h4.se,h4.pn,h4.p,h4.r,by have:=h4.i;show s.id<=N.dO+1;omega⟩
  ·rw[aL.1 hs]
   exact⟨hb.se,hb.pn,by rw[hb.p];exact hp,by rw[hb.r];omega,by rw[hb.i];exact C0 _⟩
 ·show(N.l++[x]).Pairwise Mp
  refine cm.2 ⟨h.ap,Fu _ _,λa ha b qB=>?_⟩;rw[aL.1 qB];refine⟨λe=>h2 ?_,?_⟩
  ·rw[dh]
   exact⟨a,ha,by rw[e,hb.p];simp⟩
  ·have:=(h.ok a ha).i
   rw[hb.i];omega
theorem aks{l:List kl}{x:kl}(h:l.Pairwise Mp)(hi:i<l.length)(hx:SB l[i] x):(l.set i x).Pairwise Mp:=by
 rw[dz]at h⊢;intro a b ha hb hab;rw[fc]at ha hb;have h1:=h a b ha hb hab;rw[qy,qy]
 split<;>rename_i e1<;>split<;>rename_i e2
 ·omega
 ·subst e1;exact⟨by rw[hx.p];exact h1.1,by rw[hx.i];exact h1.2⟩
 ·subst e2;exact⟨by rw[hx.p];exact h1.1,by rw[hx.i];exact h1.2⟩
 ·exact h1
variable{s:kl}{bQ:Int}
theorem Vc{L:List Kd}{y:gX}(h:(jk s L y bQ).2=true)(h1:1<=s.round):(jk s L y bQ).1.round=0\/1<=(jk s L y bQ).1.round:=by
 unfold jk at h⊢
 repeat' split
 all_goals first|exact .inl rfl|(refine .inr ?_;show 1<=s.round+1;omega)
theorem Rg{L:List Kd}{y:gX}(h:Ca s L y bQ=0):(jk s L y bQ).2=true:=by
 unfold Ca at h
 grind
theorem ae7{l:List kl}(h:atS l id=some i):i<l.length:=(aaD.1 h).1
theorem agb(h:SI N)(qt:Int)(y:gX):SI (vf qt N y).1:=by
 unfold vf;split
 ·exact h
 rename_i i e;have hi:=ae7 e;have NU:N.l.getD i oW=N.l[i]:=by rw[aI,az hi];rfl
 rw[NU];have hx:=h.ok N.l[i] (aO hi);have hp:=h.fT qt (gn N.s.L y.ca).2;have ho:=vW qt (gn N.s.L y.ca).2 N;unfold DS;split
 ·exact h
 rename_i he;have h2:=Rg (s:=N.l[i]) (L:=N.s.L) (y:=y) (bQ:=N.bQ) (by simpa using he);have hsb:=ahR N.l[i] N.s.L y N.bQ h2;have hrd:=Vc h2 hx.r;split
 ·exact h
 split
 ·exact hp
 generalize (jk N.l[i] N.s.L y N.bQ).1=x' at*;generalize (N.fT qt (gn N.s.L y.ca).2).1=M at*;have en:M.n=N.n:=by rw[ho]
 have ec:M.c=N.c:=by rw[ho]
 have el:M.dO=N.dO:=by rw[ho]
 split
 ·refine⟨λs hs=>?_,?_⟩
  ·have hs:s∈N.l:=by
    rcases aR.1 (show s∈N.l.take i++N.l.drop (i+1) from hs)with hs|hs
    ·exact bX hs
    ·exact fk hs
   have h4:=h.ok s hs;exact⟨by show _=M.n;rw[en];exact h4.se,by show _≠M.n;rw[en];exact h4.pn,by show _/\_<=M.c.jv;rw[ec];exact h4.p,h4.r,by show _<=M.dO;rw[el];exact h4.i⟩
  ·show(N.l.take i++N.l.drop (i+1)).Pairwise Mp
   rw[<-List.eraseIdx_eq_take_drop_succ];exact h.ap.sublist (List.eraseIdx_sublist _ _)
 ·rename_i hr0
  show SI (fw.CR _ _)
  refine SI.box ?_ (rp _ _);refine⟨λs hs=>?_,aks h.ap hi hsb⟩;have key:∀s,afg N s->afg {M with l:=N.l.set i x'} s:=λs h4=>⟨by show _=M.n;rw[en];exact h4.se,by show _≠M.n;rw[en];exact h4.pn,by show _/\_<=M.c.jv;rw[ec];exact h4.p,h4.r,by show _<=M.dO;rw[el];exact h4.i⟩;refine key s ?_;rcases fa (show s∈N.l.set i x' from hs)with hs|rfl
  ·exact h.ok s hs
  ·exact⟨by rw[hsb.se];exact hx.se,by rw[hsb.p];exact hx.pn,by rw[hsb.p];exact hx.p,hrd.resolve_left hr0,by rw[hsb.i];exact hx.i⟩
theorem abC(h:SI N)(qt:Int)(y:gX):SI (mK qt N y).1:=by
 unfold mK;split
 ·exact h
 split
 ·exact h
 split
 ·unfold qc
  split
  ·exact h
  split
  ·exact h.fT qt _
  ·exact(h.fT qt (tC N.s.L y).2.1).eq rfl rfl rfl rfl
 split
 ·split
  ·unfold A9
   dsimp only;split
   ·exact h.eq rfl rfl rfl rfl
   ·exact h
  ·exact h
 ·exact agb h qt y
theorem aiY(h:SI N)(hd:y4 qt N x N' y):SI N':=by
 unfold y4 at hd
 split at hd
 ·obtain⟨rfl,_⟩:=hd;exact h
 split at hd
 ·have e:N'=(lW qt N x).1:=by rw[<-hd]
  rw[e];unfold lW;split
  ·exact h
  split
  ·exact h
  split
  ·exact h
  ·exact SI.box (N:=(N.put (x.key,(Jc (gh N.s.L x.key) N.n x.op).1)).nX ⟨x.id,0,[]⟩) (h.eq rfl rfl rfl rfl) (rL _ _ _)
 split at hd
 ·have e:N'=(qj N x).1:=by rw[<-hd]
  rw[e];unfold qj;split
  ·exact h
  ·exact h.eq rfl rfl rfl rfl
 split at hd
 ·rw[hd.1];exact aga h
 split at hd
 ·rw[hd.1];exact agc h x.dr
 split at hd
 ·rw[hd.1];exact abC h qt x.AB
 split at hd
 ·obtain⟨kc,_,rfl,_⟩:=hd
  exact h.eq rfl rfl rfl rfl
 split at hd
 ·rw[hd.1];exact h.eq rfl rfl rfl rfl
 ·obtain⟨A',oK,kc,rfl,_,_⟩:=hd
  exact h.eq rfl rfl rfl rfl
variable {qt:Int}{N N':fw}{j k e:Nat}
theorem K4(r:Int)(hr:0<=r):∀(l dE:List Int),(dE.length:Int)<=r->((iM r dE l).length:Int)<=r
 |[],dE,h=>h
 |x::l,dE,h=>by
  unfold iM;refine K4 r hr l _ ?_;split
  ·rename_i h1
   simp only[aB,bA]at h1;rw[ax,eV];have:=h1.1;omega
  ·exact h
theorem Ul(hr:0<=c.xm/\c.xm<=3)(k:ByteArray)(n:Int):(ko c k n).length<=3:=by
 refine bq (bC _ _) ?_;unfold wW;split
 ·unfold sB
  split
  ·simp
  ·exact Int.ofNat_le.1 (Int.le_trans (K4 c.xm hr.1 _ [] (by simpa using hr.1)) hr.2)
 ·simp
theorem aki(h:SI N)(hn:1<=N.n/\N.n<=3)(hc:N.c.jv=3):N.l.length<=2:=by
 refine Nat.not_lt.1 λh3=>?_;have h0:=h.ok N.l[0] (aO (by omega));have h1:=h.ok N.l[1] (aO (by omega));have h2:=h.ok N.l[2] (aO h3);have hp:=dz.1 h.ap;have a1:=(hp 0 1 (by omega) (by omega) (by omega)).1;have a2:=(hp 0 2 (by omega) (by omega) (by omega)).1;have a3:=(hp 1 2 (by omega) (by omega) (by omega)).1;have b0:=h0.p;have b1:=h1.p;have b2:=h2.p;have c0:=h0.pn;have c1:=h1.pn;have c2:=h2.pn;omega
structure SZ(e:Nat)(N:fw):Prop where
 o:N.B.dE.length<=3*e
 (an:N.B.o7.length<=e)
 bQ:0<=N.bQ/\N.bQ<=e
 dO:0<=N.dO/\N.dO<=e
theorem SZ.up(h:SZ e N):SZ (e+1) N:=⟨by have:=h.o;omega,by have:=h.an;omega,by have:=h.bQ;omega,by have:=h.dO;omega⟩
theorem SZ.eq(h:SZ e N)(hB:N'.B=N.B)(hn:N'.bQ=N.bQ)(hl:N'.dO=N.dO):SZ e N':=⟨by rw[hB];exact h.o,by rw[hB];exact h.an,by rw[hn];exact h.bQ,by rw[hl];exact h.dO⟩
theorem xR(N:fw)(x:gX):(N.send x).B.o7=N.B.o7:=by
 show(N.B.send x _).o7=_
 unfold kf.send
 grind
theorem MO(N:fw)(x:kl):(N.CR x).B.o7=N.B.o7:=by
 unfold fw.CR;split
 ·exact xR N _
 ·rfl
theorem KZ(x:Kd):∀(l:List Int) (N:fw),(N.x5 l x).B.o7=N.B.o7
 |[],N=>rfl
 |t::l,N=>by
  have h:=KZ x l (N.push t x)
  have h2:(N.push t x).B.o7=N.B.o7:=by
   unfold fw.push;split
   ·exact xR N _
   ·rfl
  rw[<-h2,<-h];rfl
theorem Wj(bQ:Int):∀(l:List kl) (a:fw×List kl),(l.foldl (Au bQ) a).1.B.o7=a.1.B.o7
 |[],a=>rfl
 |s::l,a=>by
  rw[gd,Wj bQ l];unfold Au;split
  ·exact MO _ _
  ·rfl
theorem SZ.box{n:Nat}(h:SZ e N)(hb:y7 N N' n)(ha:N'.B.o7=N.B.o7)(hn:n<=3):SZ (e+1) N':=by
 have e1:=hb.e;have e2:=hb.l;have h1:=h.bQ;have h2:=h.dO;refine⟨by have:=h.o;omega,by rw[ha];have:=h.an;omega,?_,?_⟩
 ·rw[e1];show 0<=N.bQ/\N.bQ<=_;omega
 ·rw[e1];show 0<=N.dO/\N.dO<=_;omega
theorem SZ.fT(h:SZ e N)(qt:Int)(L:List Kd):SZ e (N.fT qt L).1:=by
 have e1:=vW qt L N;exact h.eq (by rw[e1]) (by rw[e1]) (by rw[e1])
theorem SZ.as1(h:SZ e N)(x:kl):SZ (e+1) (N.CR x):=h.box (rp N x) (MO N x) (by omega)
theorem af4(h:SZ e N)(qt:Int)(y:gX):SZ (e+1) (vf qt N y).1:=by
 unfold vf;split
 ·exact h.up
 rename_i i _;unfold DS;split
 ·exact h.up
 split
 ·exact h.up
 split
 ·exact(h.fT qt _).up
 have hp:=h.fT qt (gn N.s.L y.ca).2;split
 ·exact SZ.up (by exact hp.eq rfl rfl rfl)
 ·show SZ _ (fw.CR _ _)
  refine SZ.as1 ?_ _;exact SZ.eq hp rfl rfl rfl
theorem abu(h:SZ e N)(qt:Int)(y:gX):SZ (e+1) (mK qt N y).1:=by
 unfold mK;split
 ·exact h.up
 split
 ·exact h.up
 split
 ·unfold qc
  split
  ·exact h.up
  split
  ·exact(h.fT qt _).up
  ·have hp:=h.fT qt (tC N.s.L y).2.1
   show SZ _ (fw.send _ _)
   refine hp.box (n:=1) ⟨rfl,GB _ _⟩ (xR _ _) (by omega)
 split
 ·split
  ·unfold A9
   dsimp only;split
   ·exact SZ.up (by exact h.eq rfl rfl rfl)
   ·exact h.up
  ·exact h.up
 ·exact af4 h qt y
theorem aiQ(h:SZ e N)(hc:0<=N.c.xm/\N.c.xm<=3)(hl:N.l.length<=3)(hd:y4 qt N x N' y):SZ (e+1) N':=by
 unfold y4 at hd
 split at hd
 ·obtain⟨rfl,_⟩:=hd;exact h.up
 split at hd
 ·have e1:N'=(lW qt N x).1:=by rw[<-hd]
  rw[e1];unfold lW;split
  ·exact h.up
  split
  ·exact h.up
  split
  ·exact h.up
  ·have ho:=Ul hc x.key N.n
   generalize (x.key,(Jc (gh N.s.L x.key) N.n x.op).1)=kd at*;have hb:=rL kd (ko N.c x.key N.n) ((N.put kd).nX ⟨x.id,0,[]⟩);have ha:=KZ kd (ko N.c x.key N.n) ((N.put kd).nX ⟨x.id,0,[]⟩);have e2:=hb.e;have e3:=hb.l;have h0:((N.put kd).nX ⟨x.id,0,[]⟩).B.dE.length=N.B.dE.length:=rfl;have h4:((N.put kd).nX ⟨x.id,0,[]⟩).B.o7.length=N.B.o7.length+1:=by show(N.B.o7++[_]).length=_;rw[ax];rfl
   have h1:=h.bQ;have h2:=h.dO;refine⟨by have:=h.o;dsimp only;omega,by dsimp only;rw[ha,h4];have:=h.an;omega,?_,?_⟩
   ·dsimp only;rw[e2];show 0<=N.bQ/\N.bQ<=_;omega
   ·dsimp only;rw[e2];show 0<=N.dO/\N.dO<=_;omega
 split at hd
 ·have e1:N'=(qj N x).1:=by rw[<-hd]
  rw[e1];unfold qj;split
  ·exact h.up
  ·have h1:=h.bQ
   have h2:=h.dO;exact⟨by show N.B.dE.length<=_;have:=h.o;omega,by show(N.B.o7++[_]).length<=_;rw[ax,eV];have:=h.an;omega,by show 0<=N.bQ/\N.bQ<=_;omega,by show 0<=N.dO/\N.dO<=_;omega⟩
 split at hd
 ·rw[hd.1]
  unfold lO;split
  ·exact h.up
  ·have hb:=vM (N.bQ+1) N.l (N.at (N.bQ+1),[])
   have ha:=Wj (N.bQ+1) N.l (N.at (N.bQ+1),[]);have e2:=hb.e;have e3:=hb.l;generalize N.l.foldl (Au (N.bQ+1)) (N.at (N.bQ+1),[])=Z at*;have h1:=h.bQ;have h2:=h.dO;have h3:(N.at (N.bQ+1)).B.dE.length=N.B.dE.length:=rfl;simp only at e3 ha;refine⟨by show Z.1.B.dE.length<=_;have:=h.o;omega,by show Z.1.B.o7.length<=_;rw[ha];show N.B.o7.length<=_;have:=h.an;omega,?_,?_⟩
   ·show 0<=Z.1.bQ/\Z.1.bQ<=_;rw[e2];show 0<=N.bQ+1/\N.bQ+1<=_;omega
   ·show 0<=Z.1.dO/\Z.1.dO<=_;rw[e2];show 0<=N.dO/\N.dO<=_;omega
 split at hd
 ·rw[hd.1]
  unfold oC;split
  ·exact h.up
  split
  ·exact h.up
  split
  ·exact h.up
  ·have h1:=h.bQ
   have h2:=h.dO;generalize (qs N x.dr).1=z;have hb:=rp (N.add z) z;have e2:=hb.e;have e3:=hb.l;have h3:(N.add z).B.dE.length=N.B.dE.length:=rfl;refine⟨by show((N.add z).CR z).B.dE.length<=_;have:=h.o;omega,by show((N.add z).CR z).B.o7.length<=_;rw[MO];show N.B.o7.length<=_;have:=h.an;omega,?_,?_⟩
   ·show 0<=((N.add z).CR z).bQ/\((N.add z).CR z).bQ<=_;rw[e2];show 0<=N.bQ/\N.bQ<=_;omega
   ·show 0<=((N.add z).CR z).dO/\((N.add z).CR z).dO<=_;rw[e2];show 0<=N.dO+1/\N.dO+1<=_;omega
 split at hd
 ·rw[hd.1];exact abu h qt x.AB
 split at hd
 ·obtain⟨kc,_,rfl,_⟩:=hd
  exact SZ.up (by exact h.eq rfl rfl rfl)
 split at hd
 ·rw[hd.1];exact SZ.up (by exact h.eq rfl rfl rfl)
 ·obtain⟨A',oK,kc,rfl,_,_⟩:=hd
  have h1:=h.bQ;have h2:=h.dO;refine⟨?_,?_,by show 0<=N.bQ/\N.bQ<=_;omega,by show 0<=N.dO/\N.dO<=_;omega⟩
  ·show(if _ then N.B.shift else N.B).dE.length<=_
   have:=h.o;split
   ·show(N.B.dE.map _).length<=_;rw[aH];omega
   ·omega
  ·show(if _ then N.B.shift else N.B).o7.length<=_
   have:=h.an;split
   ·show(N.B.o7.map _).length<=_;rw[aH];omega
   ·omega
theorem HA{l:List Int}:iR l n=true↔(∀p∈l,mV p=n)/\l.Pairwise (· < ·)/\0<l.length:=by
 have hO:∀i,BY l n i=true↔mV (l.getD i 0)=n/\(i=0\/l.getD (i-1) 0<l.getD i 0):=λi=>by
  simp only[BY,aB,eM,bA]
 simp only[iR,aB,bL,dS,bA,hO]
 constructor
 ·rintro⟨ha,h0⟩
  refine⟨λp hp=>?_,?_,h0⟩
  ·obtain⟨i,hi,rfl⟩:=dc hp
   grind
  ·rw[dz]
   intro i j hi hj ZD;obtain⟨d,rfl⟩:∃d,j=i+1+d:=⟨j-(i+1),by omega⟩
   induction d with
   |zero=>
    have:=(ha (i+1) hj).2.resolve_left (by omega);rw[ly hi,ly hj];simpa using this
   |succ d ih=>
    have h1:=ih (by omega);have h2:=(ha (i+1+(d+1)) hj).2.resolve_left (by omega);rw[<-ly hj,show i+1+(d+1)-1=i+1+d by omega,<-ly (show i+1+d<l.length by omega)]at h2;omega
 ·rintro⟨h1,h2,h0⟩
  refine⟨λi hi=>⟨?_,?_⟩,h0⟩
  ·grind
  ·by_cases e:i=0
   ·exact .inl e
   ·refine .inr ?_
    rw[<-ly hi,<-ly (show i-1<l.length by omega)];exact dz.1 h2 (i-1) i (by omega) hi (by omega)
variable{p:Int}
theorem NE{x:Int}(h:x∈Tr.mI p):(0<=p/\p<5)/\4*p+1<=x/\x<=4*p+4:=by
 unfold Tr.mI at h
 grind
theorem acV{x:Int}(hp:mV p=n)(hx:x∈Tr.mI p):mV x=n+1:=by
 obtain⟨h1,h2⟩:=NE hx;subst hp;unfold mV;omega
theorem ac5{l:List Int}(h:l.Pairwise (· < ·)):(Tr.fV l).Pairwise (· < ·):=by
 unfold Tr.fV;rw[List.pairwise_flatMap];refine⟨λp _=>?_,h.imp λ{a b} hab x hx y hy=>?_⟩
 ·unfold Tr.mI
  split
  ·simp_all
  simp_all
 ·have h1:=(NE hx).2
  have h2:=(NE hy).2;omega
theorem Mw(t:List Nat):∀(ks:List Int) (ds:List (List Nat)),(Tr.I6 t ks ds).Sublist ks
 |[],ds=>by simp[Tr.I6]
 |k::ks,[]=>by simp[Tr.I6]
 |k::ks,d::ds=>by
  unfold Tr.I6;split
  ·exact(Mw t ks ds).cons _
  ·exact(Mw t ks ds).cons_cons _
theorem UH{t:List Nat}{l:List Int}{D:List (List Nat)}(h:iR l n=true)(h0:¬z1 t l D=[]):iR (z1 t l D) (n+1)=true:=by
 obtain⟨h1,h2,_⟩:=HA.1 h
 have hs:(z1 t l D).Sublist (Tr.fV l):=by
  unfold z1;split
  ·exact Mw _ _ _
  grind
 refine HA.2 ⟨λp hp=>?_,(ac5 h2).sublist hs,qS.2 h0⟩;obtain⟨q,hq,hpq⟩:=iu.1 (hs.subset hp);exact acV (h1 q hq) hpq
variable{x:kl}
theorem jt:gx x=true↔(1<=x.tg/\x.tg<=8)/\(1<=x.jV/\x.jV<=8)/\x.tg≠x.jV/\(1<=x.id/\x.id<=1099511627776)/\(0<=x.part/\x.part<=7)/\(0<=x.round/\x.round<=3)/\pW x.round x.pl=true/\x.gD.ok=true/\(0<=x.Oo/\x.Oo<=2199023255552):=by
 simp only[gx,aB,bne_iff_ne,B6,and_assoc]
theorem PP(h:w.ok=true):w.lR.ok=true:=by
 unfold Bk.lR;rw[aC h];obtain⟨h1,h2,h3,h4⟩:=Bk.lj.1 h;exact Bk.lj.2 ⟨h1,h2,h3,by simp⟩
theorem agP(h:w.ok=true):w.next.ok=true:=by
 unfold Bk.next;split
 ·rename_i hh
  simp only[aB,bA]at hh;obtain⟨h1,h2,h3,h4⟩:=Bk.lj.1 h;exact Bk.lj.2 ⟨h1,h2,h3,by show 0<=w.gI+1/\w.gI+1<=_;omega⟩
 ·exact h
theorem TY(h:gx x=true)(hn:0<=bQ/\bQ<=1000000):gx (kX x bQ).1=true:=by
 obtain⟨h1,h2,h3,h4,h5,h6,h7,h8,h9⟩:=jt.1 h;unfold kX;split
 ·exact h
 split
 ·exact jt.2 ⟨h1,h2,h3,h4,h5,by show 0<=(0:Int)/\(0:Int)<=3;omega,rfl,h8,h9⟩
 ·have:=DV x.gD.next
  exact jt.2 ⟨h1,h2,h3,h4,h5,h6,h7,agP h8,by show 0<=bQ+x.gD.next.H6/\bQ+x.gD.next.H6<=_;omega⟩
theorem TZ{L:List Kd}{y:gX}(h:gx x=true)(hr:1<=x.round)(hn:0<=bQ/\bQ<=1000000)(h2:(jk x L y bQ).2=true):gx (jk x L y bQ).1=true:=by
 obtain⟨g1,g2,g3,g4,g5,g6,g7,g8,g9⟩:=jt.1 h;have he:gx (Bp x)=true:=jt.2 ⟨g1,g2,g3,g4,g5,by show 0<=(0:Int)/\(0:Int)<=3;omega,rfl,g8,g9⟩;unfold jk at h2⊢
 split at h2
 ·grind
 rename_i k1;rw[if_neg k1]
 split at h2
 ·grind
 rename_i k2;rw[if_neg k2]
 split at h2
 ·cases h2
 rename_i k3;rw[if_neg k3]
 split at h2
 ·grind
 rename_i k4;rw[if_neg k4];simp only[not_or,not_and,lM]at k3
 have hrd:x.round=1\/x.round=2:=by
  omega
 have CU:=k3.2.2
 have U2:iR y.pl (x.round-1)=true:=by
  rw[CU];unfold atF;rcases hrd with e|e
  ·rw[aC e,e];rfl
  ·rw[if_neg (by omega),e]
   have:=g7;rw[pW,if_neg (by omega),e]at this;exact this
 have vd:=UH U2 k4;have hg:=DV x.gD.lR;refine jt.2 ⟨g1,g2,g3,g4,g5,by show 0<=x.round+1/\x.round+1<=3;omega,?_,PP g8,by show 0<=bQ+x.gD.lR.H6/\bQ+x.gD.lR.H6<=_;omega⟩
 show pW (x.round+1) _=true
 rw[pW,if_neg (by omega),show x.round+1-1=x.round-1+1 by omega];exact vd
variable {qt:Int}{N N':fw}{j k e:Nat}
structure V4(bQ:Int)(s:kl):Prop where
 r:gx s=true
 (b:s.gD.gM=1/\s.gD.cap=4/\s.gD.dG=3)
 (t:s.gD.gI<=3)
 d:s.Oo<=bQ+4
theorem aqT(h:w.cap=4):w.H6<=4:=by
 unfold Bk.H6;omega
def mW(bQ:Int)(s:kl):Int:=(3-s.gD.gI)*5+max (s.Oo-bQ) 0
theorem Kn(h:V4 bQ s){l:List Int}(hr:gx (vT s n l bQ)=true):V4 bQ (vT s n l bQ):=by
 have hw:=(jt.1 h.r).2.2.2.2.2.2.2.1;have e:s.gD.lR={s.gD with gI:=0}:=by unfold Bk.lR;rw[aC hw]
 have hg:=aqT (w:=s.gD.lR) (by rw[e];exact h.b.2.1);refine⟨hr,?_,?_,?_⟩
 ·show s.gD.lR.gM=1/\s.gD.lR.cap=4/\s.gD.lR.dG=3
  rw[e];exact h.b
 ·show s.gD.lR.gI<=3
  grind
 ·show bQ+s.gD.lR.H6<=bQ+4
  omega
theorem aa6(h:V4 bQ s)(hn:0<=bQ/\bQ<1000000)(hr:1<=s.round)(hl:0<(kX s (bQ+1)).1.round):V4 (bQ+1) (kX s (bQ+1)).1/\mW (bQ+1) (kX s (bQ+1)).1+1<=mW bQ s/\0<=mW bQ s:=by
 have hR:=TY h.r (bQ:=bQ+1) (by omega);obtain⟨g1,g2,g3,g4,g5,g6,g7,g8,g9⟩:=jt.1 h.r;obtain⟨b1,b2,b3,b4⟩:=Bk.lj.1 g8;have hb:=h.b;have ht:=h.t;have hd:=h.d;have h0:0<=mW bQ s:=by unfold mW;omega
 have xr:ql (bQ+1)=true:=B6.2 (by omega);unfold kX at hl hR⊢
 split at hl
 ·rename_i h1
  rw[aC h1]at hR⊢
  have bH:bQ+1<s.Oo:=by
   grind
  refine⟨⟨h.r,hb,ht,by show s.Oo<=bQ+1+4;omega⟩,?_,h0⟩
  show mW (bQ+1) s+1<=mW bQ s
  unfold mW;omega
 ·rename_i h1
  rw[if_neg h1]at hR⊢;simp only[not_or]at h1
  split at hl
  ·exact absurd hl (by show ¬(0:Int)<0;omega)
  ·rename_i h2
   rw[if_neg h2]at hR⊢
   have Ta:¬s.gD.dG<=s.gD.gI:=by
    intro hc
    apply h2
    unfold Bk.PA
    grind
   have en:s.gD.next={s.gD with gI:=s.gD.gI+1}:=by
    unfold Bk.next
    grind
   have hg:=aqT (w:=s.gD.next) (by rw[en];exact hb.2.1);have wA:=(DV s.gD.next).1;refine⟨⟨hR,?_,?_,?_⟩,?_,h0⟩
   ·grind
   ·grind
   ·grind
   ·have et:s.gD.next.gI=s.gD.gI+1:=by rw[en]
    show(3-s.gD.next.gI)*5+max (bQ+1+s.gD.next.H6-(bQ+1)) 0+1<=(3-s.gD.gI)*5+max (s.Oo-bQ) 0
    omega
structure WI(N:fw):Prop where
 w:∀s∈N.l,V4 N.bQ s
theorem WI.eq(h:WI N)(hn:N'.bQ=N.bQ)(hl:N'.l=N.l):WI N':=⟨λs hs=>by rw[hn];rw[hl]at hs;exact h.w s hs⟩
theorem WI.box{n:Nat}(h:WI N)(hb:y7 N N' n):WI N':=h.eq (by rw[hb.e]) (by rw[hb.e])
theorem WI.fT(h:WI N)(qt:Int)(L:List Kd):WI (N.fT qt L).1:=h.eq (by rw[vW]) (by rw[vW])
theorem Wg(h:WI N)(hS:SI N)(hn:0<=N.bQ/\N.bQ<1000000):WI (lO N).1/\∀b:Int,(∀s∈N.l,mW N.bQ s<=b)->∀s∈(lO N).1.l,mW (lO N).1.bQ s<=b-1/\0<=b:=by
 have hb:=vM (N.bQ+1) N.l (N.at (N.bQ+1),[]);have h2:=FC (N.bQ+1) N.l (N.at (N.bQ+1),[]);rw[bV]at h2;have e:=hb.e
 have eT:(lO N).1={(N.l.foldl (Au (N.bQ+1)) (N.at (N.bQ+1),[])).1 with l:=(N.l.foldl (Au (N.bQ+1)) (N.at (N.bQ+1),[])).2}:=by
  unfold lO;rw[if_neg (by omega)]
 rw[eT];generalize N.l.foldl (Au (N.bQ+1)) (N.at (N.bQ+1),[])=Z at*;obtain⟨M,l⟩:=Z;simp only at h2 e;subst h2;have en:M.bQ=N.bQ+1:=by rw[e];rfl
 have key:∀t∈(N.l.map λs=>(kX s (N.bQ+1)).1).filter λt=>decide (0<t.round),∃s∈N.l,V4 (N.bQ+1) t/\mW (N.bQ+1) t+1<=mW N.bQ s/\0<=mW N.bQ s:=λt ht=>by
  obtain⟨ht,hr⟩:=cH.1 ht;obtain⟨s,hs,rfl⟩:=aV.1 ht;exact⟨s,hs,aa6 (h.w s hs) hn (hS.ok s hs).r (ah hr)⟩
 refine⟨⟨λt ht=>?_⟩,λb qB t ht=>?_⟩
 ·obtain⟨s,_,h1,_⟩:=key t ht
  show V4 M.bQ t
  rw[en];exact h1
 ·obtain⟨s,hs,_,h3,h4⟩:=key t ht
  have:=qB s hs
  show mW M.bQ t<=b-1/\0<=b
  rw[en];omega
theorem afU(h:WI N)(hw:N.w=Rl)(hn:0<=N.bQ/\N.bQ<1000000)(d:Int):WI (oC N d).1:=by
 unfold oC;split
 ·exact h
 split
 ·exact h
 split
 ·exact h
 rename_i h3;have h3:(qs N d).2=0:=by simpa using h3
 have hx:V4 N.bQ (qs N d).1:=by
  unfold qs uD at h3⊢
  split at h3
  ·rename_i h1
   rw[aC h1];rw[aB]at h1;have hr:=h1.2;obtain⟨g1,g2,g3,g4,g5,g6,g7,g8,g9⟩:=jt.1 hr;have hg:=DV N.w.lR;have h0:V4 N.bQ ⟨N.dO+1,N.n,(lV (kw N.c N.n) d).1,(lV (ng N.c N.n (lV (kw N.c N.n) d).1) (d/65536)).1,1,[],N.w,0⟩:=⟨hr,by rw[hw];exact⟨rfl,rfl,rfl⟩,by rw[hw];show(0:Int)<=3;omega,by show(0:Int)<=N.bQ+4;omega⟩;refine Kn h0 (jt.2 ⟨g1,g2,g3,g4,g5,by show 0<=(1:Int)/\(1:Int)<=3;omega,rfl,PP g8,by show 0<=N.bQ+N.w.lR.H6/\N.bQ+N.w.lR.H6<=_;omega⟩)
  ·cases h3
 generalize (qs N d).1=x at*
 show WI ((N.add x).CR x)
 refine WI.box ?_ (rp _ _);refine⟨λs hs=>?_⟩;rcases aR.1 (show s∈N.l++[x] from hs)with hs|hs
 ·exact h.w s hs
 ·rw[aL.1 hs];exact hx
theorem aa8{L:List Kd}{y:gX}(h:V4 bQ s)(hr:1<=s.round)(hn:0<=bQ/\bQ<=1000000)(h2:(jk s L y bQ).2=true)(h0:¬(jk s L y bQ).1.round=0):V4 bQ (jk s L y bQ).1:=by
 have hR:=TZ h.r hr hn h2;unfold jk at hR h2 h0⊢;by_cases k1:s.round=1/\y.kind=4
 ·rw[aC k1]at h0;exact absurd rfl h0
 rw[if_neg k1]at hR h2 h0⊢;by_cases k2:s.round=3/\y.kind=6/\y.pl=s.pl
 ·rw[aC k2]at h0;exact absurd rfl h0
 rw[if_neg k2]at hR h2 h0⊢;by_cases k3:y.kind≠5\/(s.round≠1/\s.round≠2)\/y.pl≠atF s
 ·grind
 rw[if_neg k3]at hR h2 h0⊢;by_cases k4:z1 (lN L s.part) y.pl y.dg=[]
 ·rw[aC k4]at h0;exact absurd rfl h0
 rw[if_neg k4]at hR⊢;exact Kn h hR
theorem afT(h:WI N)(hS:SI N)(hn:0<=N.bQ/\N.bQ<1000000)(qt:Int)(y:gX):WI (vf qt N y).1:=by
 unfold vf;split
 ·exact h
 rename_i i e;have hi:=ae7 e;have NU:N.l.getD i oW=N.l[i]:=by rw[aI,az hi];rfl
 rw[NU];have hx:=hS.ok N.l[i] (aO hi);have hw:=h.w N.l[i] (aO hi);have hp:=h.fT qt (gn N.s.L y.ca).2;have ho:=vW qt (gn N.s.L y.ca).2 N;unfold DS;split
 ·exact h
 rename_i he;have h2:=Rg (s:=N.l[i]) (L:=N.s.L) (y:=y) (bQ:=N.bQ) (by simpa using he);have hwk:=aa8 (L:=N.s.L) (y:=y) hw hx.r (by omega) h2;split
 ·exact h
 split
 ·exact hp
 generalize (jk N.l[i] N.s.L y N.bQ).1=x' at*;generalize (N.fT qt (gn N.s.L y.ca).2).1=M at*;have en:M.bQ=N.bQ:=by rw[ho]
 split
 ·refine⟨λs hs=>?_⟩
  show V4 M.bQ s
  rw[en];rcases aR.1 (show s∈N.l.take i++N.l.drop (i+1) from hs)with hs|hs
  ·exact h.w s (bX hs)
  ·exact h.w s (fk hs)
 ·rename_i hr0
  show WI (fw.CR _ _)
  refine WI.box ?_ (rp _ _);refine⟨λs hs=>?_⟩
  show V4 M.bQ s
  rw[en];rcases fa (show s∈N.l.set i x' from hs)with hs|rfl
  ·exact h.w s hs
  ·exact hwk hr0
theorem abb(h:WI N)(hS:SI N)(hn:0<=N.bQ/\N.bQ<1000000)(qt:Int)(y:gX):WI (mK qt N y).1:=by
 unfold mK;split
 ·exact h
 split
 ·exact h
 split
 ·unfold qc
  split
  ·exact h
  split
  ·exact h.fT qt _
  ·exact(h.fT qt (tC N.s.L y).2.1).eq rfl rfl
 split
 ·split
  ·unfold A9
   dsimp only;split
   ·exact h.eq rfl rfl
   ·exact h
  ·exact h
 ·exact afT h hS hn qt y
theorem aiM(h:WI N)(hS:SI N)(hw:N.w=Rl)(hn:0<=N.bQ/\N.bQ<1000000){x:vF}(hd:y4 qt N x N' y):WI N':=by
 unfold y4 at hd
 split at hd
 ·obtain⟨rfl,_⟩:=hd;exact h
 split at hd
 ·have e1:N'=(lW qt N x).1:=by rw[<-hd]
  rw[e1];unfold lW;split
  ·exact h
  split
  ·exact h
  split
  ·exact h
  ·exact WI.box (N:=(N.put (x.key,(Jc (gh N.s.L x.key) N.n x.op).1)).nX ⟨x.id,0,[]⟩) (h.eq rfl rfl) (rL _ _ _)
 split at hd
 ·have e1:N'=(qj N x).1:=by rw[<-hd]
  rw[e1];unfold qj;split
  ·exact h
  ·exact h.eq rfl rfl
 split at hd
 ·rw[hd.1];exact(Wg h hS hn).1
 split at hd
 ·rw[hd.1];exact afU h hw hn x.dr
 split at hd
 ·rw[hd.1];exact abb h hS hn qt x.AB
 split at hd
 ·obtain⟨kc,_,rfl,_⟩:=hd
  exact h.eq rfl rfl
 split at hd
 ·rw[hd.1];exact h.eq rfl rfl
 ·obtain⟨A',oK,kc,rfl,_,_⟩:=hd
  exact h.eq rfl rfl
variable {qt:Int}{N N':fw}{j k e:Nat}
structure Al(qt r n:Int)(j k e:Nat)(N:fw):Prop where
 i:pO qt j k N
 (f:N.c=vA r/\N.w=Rl/\N.n=n)
 si:SI N
 z:SZ e N
 w:WI N
theorem Al.t(h:Al qt r n j k e N)(hr:1<=r/\r<=3)(hn:1<=n/\n<=3):NdT N:=
 ⟨by rw[h.f.1];exact Rc.lj.2 ⟨by simp[vA],by simp[vA],by simp[vA];omega⟩,by rw[h.f.2.1];decide,by rw[h.f.2.2,h.f.1];exact⟨hn.1,by simp[vA];omega⟩⟩
theorem Al.Yf(h:Al qt r n j k e N)(hn:1<=n/\n<=3):N.l.length<=2:=aki h.si (by rw[h.f.2.2];exact hn) (by rw[h.f.1];rfl)
theorem Al.nz(h:Al qt r n j k e N)(hn:1<=n/\n<=3)(he:e<=90):NdZ N:=
 ⟨by have:=h.z.o;omega,by have:=h.z.an;omega,by have:=h.Yf hn;omega,h.z.bQ.1,by have:=h.z.dO;omega⟩
theorem Ml(h:Al qt r n j k e N)(hr:1<=r/\r<=3)(hn:1<=n/\n<=3)(hj:j<=1260)(he:e<=90){x:vF}(hx:ON x)(hd:y4 qt N x N' y):Al qt r n (j+31) (k+2) (e+1) N':=by
 have hT:=h.t hr hn;have h1:=aoU h.i hT (by omega) hx hd;refine⟨?_,?_,aiY h.si hd,aiQ h.z (by rw[h.f.1];show 0<=r/\r<=3;omega) (by have:=h.Yf hn;omega) hd,aiM h.w h.si h.f.2.1 (by have:=h.z.bQ;omega) hd⟩
 ·exact h1.i
 ·rw[h1.f.c,h1.f.w,h1.f.n];exact h.f
theorem SS(h:pO qt 0 2 (N0 r n ns)):Al qt r n 0 2 0 (N0 r n ns):=
 ⟨h,⟨rfl,rfl,rfl⟩,⟨(λs hs=>by cases hs),List.Pairwise.nil⟩,⟨aW _,aW _,⟨C0 _,C0 _⟩,⟨C0 _,C0 _⟩⟩,⟨(λs hs=>by cases hs)⟩⟩
variable {qt:Int}{N N':fw}{y:XL}{x:vF}{j k:Nat}
structure OM(c:Rc)(n:Int)(x:gX):Prop where
 f:x.fr=n
 (p:x.kind≠7->l4 c n x.part=true/\l4 c x.qe x.part=true)
 k:x.kind=7->∃d,x.ca=[d]/\sJ c x.qe d.1=true
structure OW(N:fw):Prop where
 k:∀x∈N.s.L,sJ N.c N.n x.1=true
 l:∀s∈N.l,l4 N.c N.n s.part=true/\l4 N.c s.jV s.part=true
 b:∀r∈N.B.dE,OM N.c N.n r.1
variable{z:gX}
theorem OW.send(h:OW N)(hz:OM N.c N.n z):OW (N.send z):=by
 refine⟨h.k,h.l,λr hr=>?_⟩;have hr:r∈(N.B.send z (N.s.R.length:Nat)).dE:=hr;unfold kf.send at hr
 split at hr
 ·rcases aR.1 hr with hr|hr
  ·exact h.b r hr
  ·rw[aL.1 hr];exact hz
 ·exact h.b r hr
theorem OW.CR(h:OW N)(hs:s.tg=N.n)(hp:l4 N.c N.n s.part=true/\l4 N.c s.jV s.part=true):OW (N.CR s):=by
 unfold fw.CR;split
 ·rename_i h0
  have hr:gx s=true:=by
   unfold E6 at h0
   grind
  have h3:s.round<=3:=(jt.1 hr).2.2.2.2.2.1.2;refine h.send ⟨hs,λ_=>hp,λh7=>?_⟩;have h7:s.round=7:=h7;omega
 ·exact h
theorem OW.put(h:OW N){z:Kd}(hz:sJ N.c N.n z.1=true):OW (N.put z):=by
 refine⟨λd hd=>?_,h.l,h.b⟩;have hd:d∈(N.s.put z).L:=hd;rw[jf.ai3]at hd;rcases uM hd with hd|rfl
 ·exact h.k d hd
 ·exact hz
theorem OW.fT:∀{T:List Kd}{N:fw},OW N->(∀z∈T,sJ N.c N.n z.1=true)->OW (N.fT qt T).1
 |[],N,h,_=>h
 |z::T,N,h,hT=>by
  unfold fw.fT;split
  ·exact OW.fT (N:=N.put z) (h.put (hT z (by simp))) λw hw=>hT w (by simp[hw])
  ·exact h
theorem OW.push(h:OW N){t:Int}{z:Kd}(hz:sJ N.c t z.1=true):OW (N.push t z):=by
 unfold fw.push;split
 ·exact h.send ⟨rfl,λh7=>absurd rfl h7,λ_=>⟨z,rfl,hz⟩⟩
 ·exact h
theorem ahE(N:fw)(t:Int)(z:Kd):(N.push t z).c=N.c/\(N.push t z).n=N.n:=by
 rw[(ab8 N t z).e];exact rR
theorem OW.x5{z:Kd}:∀{l:List Int}{N:fw},OW N->(∀t∈l,sJ N.c t z.1=true)->OW (N.x5 l z)
 |[],N,h,_=>h
 |t::l,N,h,hl=>by
  refine OW.x5 (N:=N.push t z) (h.push (hl t (by simp))) λu hu=>?_;rw[(ahE N t z).1];exact hl u (by simp[hu])
theorem aaU{k:ByteArray}{t:Int}(h:t∈ko c k n):sJ c t k=true:=by
 unfold sJ;rw[Kc];exact(cH.1 h).1
theorem aaF(L C:List Kd):∀z∈(gn L C).2,∃c∈C,z.1=c.1:=by
 have key:∀(C:List Kd) (s:List Kd×List Kd),∀z∈(C.foldl ou s).2,z∈s.2\/∃c∈C,z.1=c.1:=by
  intro C
  induction C with
  |nil=>intro s z hz;exact .inl hz
  |cons c C ih=>
   intro s z hz;rw[gd]at hz;rcases ih (ou s c) z hz with h|⟨d,hd,e⟩
   ·unfold ou at h
    split at h
    ·rcases uM h with h|rfl
     ·exact .inl h
     ·exact .inr ⟨c,by simp,rfl⟩
    ·exact .inl h
   ·exact .inr ⟨d,by simp[hd],e⟩
 intro z hz;rcases key C (L,[]) z hz with h|h
 ·cases h
 ·exact h
theorem afH(h:pT z=true):∀c∈z.ca,kZ (jR c.1)=true/\(qI c.1:Int)=z.part:=λc hc=>by
 unfold pT at h;rw[aB]at h;have h2:=h.2;rw[dH,oP]at h2;have h3:=h2 c hc;unfold rY at h3;simp only[eM,dH,gz,not_or,Bool.not_eq_false,lM]at h3;exact⟨h3.1,h3.2.1⟩
theorem agM{k:ByteArray}(hk:kZ (jR k)=true):sJ c n k=l4 c n (qI k):=by
 unfold sJ wW l4
 grind
theorem afJ(hr:dR z=true)(h7:z.kind≠7)(hp:l4 c n z.part=true):∀d∈z.ca,sJ c n d.1=true:=λd hd=>by
 have hh:=hr;simp only[dR,aB]at hh;obtain⟨hk,hh⟩:=hh
 have hs:GF z (uY z)=true:=by
  simp only[Xh,aB]at hh;exact hh.2.2.2.2
 have e:=abM hs;by_cases h36:z.kind=3\/z.kind=6
 ·have hw:pT z=true:=by
   unfold Vo at hk;rw[if_neg (by omega),if_neg (by omega),aC h36,aB]at hk;exact hk.2
  obtain⟨h1,h2⟩:=afH hw d hd;rw[agM h1,h2];exact hp
 ·exfalso
  have Vf:z.ca=[]:=by
   have ajE:z.kind=1\/z.kind=4\/z.kind=2\/z.kind=5:=by
    unfold Vo at hk
    repeat' split at hk
    all_goals first|omega|cases hk
   rw[e];unfold uY;rcases ajE with h|h|h|h
   ·rw[aC h]
   ·rw[if_neg (by omega),if_neg (by omega),if_neg (by omega),if_neg (by omega),if_neg (by omega)]
   ·rw[if_neg (by omega),aC h]
   ·rw[if_neg (by omega),if_neg (by omega),if_neg (by omega),aC h]
  rw[Vf]at hd;cases hd
variable {qt:Int}{N N':fw}{y:XL}{x:vF}{j k:Nat}
theorem aiI(bQ:Int)(c:Rc)(n:Int):∀(l:List kl) (a:fw×List kl),OW a.1->a.1.c=c->a.1.n=n->(∀s∈l,s.tg=n/\l4 c n s.part=true/\l4 c s.jV s.part=true)->(∀s∈a.2,l4 c n s.part=true/\l4 c s.jV s.part=true)->OW (l.foldl (Au bQ) a).1/\∀s∈(l.foldl (Au bQ) a).2,l4 c n s.part=true/\l4 c s.jV s.part=true
 |[],a,h,_,_,_,h2=>⟨h,h2⟩
 |s::l,a,h,ec,en,hl,h2=>by
  have h3:=My s bQ;have hs:=hl s (by simp);have ht:l4 c n (kX s bQ).1.part=true/\l4 c (kX s bQ).1.jV (kX s bQ).1.part=true:=by rw[h3.p,h3.pa];exact hs.2
  have e:=(af3 bQ a s).e;refine aiI bQ c n l (Au bQ a s) ?_ (by rw[e];exact ec) (by rw[e];exact en) (λt ht=>hl t (by simp[ht])) ?_
  ·unfold Au
   dsimp only;split
   ·exact h.CR (by rw[h3.se,en];exact hs.1) (by rw[ec,en];exact ht)
   ·exact h
  ·unfold Au
   dsimp only;intro t ht'
   split at ht'
   ·rcases aR.1 ht' with ht'|ht'
    ·exact h2 t ht'
    ·rw[aL.1 ht'];exact ht
   ·exact h2 t ht'
theorem OW.at(h:OW N)(bQ:Int):OW (N.at bQ):=⟨h.k,h.l,h.b⟩
theorem an2(h:OW N)(hS:SI N):OW (lO N).1:=by
 unfold lO;split
 ·exact h
 have hb:=vM (N.bQ+1) N.l (N.at (N.bQ+1),[]);obtain⟨h1,h2⟩:=aiI (N.bQ+1) N.c N.n N.l (N.at (N.bQ+1),[]) (h.at _) rfl rfl (λs hs=>⟨(hS.ok s hs).se,h.l s hs⟩) (λs hs=>by cases hs);have e:=hb.e;generalize N.l.foldl (Au (N.bQ+1)) (N.at (N.bQ+1),[])=Z at*;obtain⟨M,l⟩:=Z;simp only at h1 h2 e⊢;have ec:M.c=N.c:=by rw[e];rfl
 have en:M.n=N.n:=by rw[e];rfl
 refine⟨h1.k,λs hs=>?_,h1.b⟩
 show l4 M.c M.n s.part=true/\l4 M.c s.jV s.part=true
 rw[ec,en];exact h2 s hs
theorem aaR(h:p∈ng c a n):l4 c a p=true/\l4 c n p=true:=by
 unfold ng at h
 split at h
 ·cases h
 obtain⟨h1,h2⟩:=cH.1 h;exact⟨(cH.1 h1).2,h2⟩
theorem ahJ{l:List Int}(h:l≠[]):(lV l d).1∈l:=by
 refine ack ?_;unfold lV
 grind
theorem an4(h:OW N)(d:Int):OW (oC N d).1:=by
 unfold oC;split
 ·exact h
 rename_i h1;split
 ·exact h
 split
 ·exact h
 rename_i h3;have hb:=VE (N:=N) (d:=d) (by simpa using h3);have hm:=ack (l:=kw N.c N.n) (d:=d) (by simpa using h1)
 have ga:ng N.c N.n (lV (kw N.c N.n) d).1≠[]:=by
  have h5:=(cH.1 hm).2;unfold wU at h5
  grind
 have hp:(qs N d).1.part=(lV (ng N.c N.n (lV (kw N.c N.n) d).1) (d/65536)).1:=by
  unfold qs uD at h3⊢
  split at h3
  ·rename_i h4
   rw[aC h4];rfl
  omega
 have hh:=aaR (ahJ (d:=d/65536) ga);rw[<-hp,<-hb.p]at hh;generalize (qs N d).1=s at*;refine OW.CR (N:=N.add s) ⟨h.k,λt ht=>?_,h.b⟩ hb.se hh;rcases aR.1 (show t∈N.l++[s] from ht)with ht|ht
 ·exact h.l t ht
 ·rw[aL.1 ht];exact hh
theorem aiR(h:OW N)(hS:SI N)(hr:dR z=true):OW (mK qt N z).1:=by
 unfold mK;split
 ·exact h
 rename_i WZ;have WZ:z.qe=N.n:=by simpa using WZ
 split
 ·exact h
 rename_i ho;have ho:G8 N z=true:=by simpa using ho
 unfold G8 at ho;split
 ·rename_i hk
  have h7:z.kind≠7:=by have:=B6.1 hk;omega
  rw[if_neg h7,aB]at ho;unfold qc;split
  ·exact h
  rename_i h0;have h0:(tC N.s.L z).2.2=0:=by simpa using h0
  have hT:∀d∈(tC N.s.L z).2.1,sJ N.c N.n d.1=true:=by
   intro d hd;unfold tC at hd
   split at hd
   ·cases hd
   split at hd
   ·cases hd
   split at hd
   ·split at hd
    ·cases hd
    ·obtain⟨c,hc,e⟩:=aaF _ _ d hd
     rw[e];exact afJ hr h7 ho.1 c hc
   split at hd
   ·split at hd
    ·cases hd
    ·cases hd
   ·cases hd
  have hA:OM N.c N.n (tC N.s.L z).1:=by
   unfold tC at h0⊢
   split at h0
   ·cases h0
   rename_i h1;rw[if_neg h1]
   split at h0
   ·cases h0
   rename_i h1;rw[if_neg h1]
   split at h0
   ·rename_i h1
    rw[aC h1]
    split at h0
    ·rename_i h2
     exact absurd h0 h2
    ·rename_i h2
     rw[if_neg h2];exact⟨WZ,λ_=>ho,λh=>absurd (show(6:Int)=7 from h) (by decide)⟩
   rename_i h1;rw[if_neg h1];split
   ·split
    ·exact⟨WZ,λ_=>ho,λh=>absurd (show(4:Int)=7 from h) (by decide)⟩
    ·exact⟨WZ,λ_=>ho,λh=>absurd (show(5:Int)=7 from h) (by decide)⟩
   ·exact⟨WZ,λ_=>ho,λh=>absurd (show(5:Int)=7 from h) (by decide)⟩
  have hP:=h.fT (qt:=qt) hT;split
  ·exact hP
  ·refine hP.send ?_
   have e:=vW qt (tC N.s.L z).2.1 N;rw[e];exact hA
 split
 ·rename_i h7
  rw[aC h7,aB]at ho;generalize Vf:z.ca=l at*
  cases l with
  |nil=>exact h
  |cons d l=>
   have hk:sJ N.c N.n d.1=true:=ho.1
   show OW (A9 qt N d).1
   unfold A9;dsimp only;split
   ·exact h.put hk
   ·exact h
 rename_i h7;rw[if_neg h7,aB]at ho;unfold vf;split
 ·exact h
 rename_i i hi;unfold DS;split
 ·exact h
 rename_i he;split
 ·exact h
 have hT:∀d∈(gn N.s.L z.ca).2,sJ N.c N.n d.1=true:=λd hd=>by
  obtain⟨c,hc,e⟩:=aaF _ _ d hd;rw[e];exact afJ hr h7 ho.1 c hc
 have hP:=h.fT (qt:=qt) hT;have e:=vW qt (gn N.s.L z.ca).2 N;split
 ·exact hP
 have hPl:(N.fT qt (gn N.s.L z.ca).2).1.l=N.l:=by rw[e]
 have hPc:(N.fT qt (gn N.s.L z.ca).2).1.c=N.c:=by rw[e]
 have hPn:(N.fT qt (gn N.s.L z.ca).2).1.n=N.n:=by rw[e]
 split
 ·refine⟨hP.k,λs hs=>?_,hP.b⟩
  refine hP.l s ?_;rw[hPl];rcases aR.1 hs with hs|hs
  ·exact bX hs
  ·exact fk hs
 ·have bH:i<N.l.length:=by
   unfold atS at hi;exact(aaD.1 hi).1
  have hm:N.l.getD i oW∈N.l:=by
   rw[aI,az bH];exact aO bH
  have hso:=(hS.ok _ hm).se;have W9:=h.l _ hm
  have hB:SB (N.l.getD i oW) (jk (N.l.getD i oW) N.s.L z N.bQ).1:=by
   refine ahR _ _ _ _ ?_;exact Rg (by simpa using he)
  generalize N.l.getD i oW=s at*;generalize (jk s N.s.L z N.bQ).1=t at*;have ht:l4 N.c N.n t.part=true/\l4 N.c t.jV t.part=true:=by rw[hB.p,hB.pa];exact W9
  refine OW.CR (N:={(N.fT qt (gn N.s.L z.ca).2).1 with l:=N.l.set i t}) ⟨hP.k,λu hu=>?_,hP.b⟩ ?_ ?_
  ·show l4 (N.fT qt (gn N.s.L z.ca).2).1.c (N.fT qt (gn N.s.L z.ca).2).1.n u.part=true/\l4 (N.fT qt (gn N.s.L z.ca).2).1.c u.jV u.part=true
   rw[hPc,hPn];rcases fa hu with hu|rfl
   ·exact h.l u hu
   ·exact ht
  ·show t.tg=(N.fT qt (gn N.s.L z.ca).2).1.n
   rw[hPn,hB.se];exact hso
  ·show l4 (N.fT qt (gn N.s.L z.ca).2).1.c (N.fT qt (gn N.s.L z.ca).2).1.n t.part=true/\l4 (N.fT qt (gn N.s.L z.ca).2).1.c t.jV t.part=true
   rw[hPc,hPn];exact ht
theorem ap5(h:OW N)(hS:SI N)(hd:y4 qt N x N' y):OW N':=by
 unfold y4 at hd
 split at hd
 ·rw[hd.1];exact h
 rename_i hr;have hr:aaL x=true:=by simpa using hr
 split at hd
 ·unfold lW at hd
  split at hd
  ·rw[(MF hd).1];exact h
  rename_i hh;have hh:sJ N.c N.n x.key=true:=by simpa using hh
  split at hd
  ·rw[(MF hd).1];exact h
  split at hd
  ·rw[(MF hd).1];exact h
  ·rw[(MF hd).1]
   have hP:=h.put (z:=(x.key,(Jc (gh N.s.L x.key) N.n x.op).1)) hh;exact OW.x5 ⟨hP.k,hP.l,hP.b⟩ λt ht=>aaU ht
 split at hd
 ·unfold qj at hd
  split at hd
  ·rw[(MF hd).1];exact h
  ·rw[(MF hd).1]
   exact⟨h.k,h.l,h.b⟩
 split at hd
 ·rw[hd.1];exact an2 h hS
 split at hd
 ·rw[hd.1];exact an4 h _
 split at hd
 ·rename_i h5
  rw[hd.1];refine aiR h hS ?_;unfold aaL at hr;rw[aB]at hr;have h6:=hr.1;unfold S5 at h6;rw[if_neg (by omega),if_neg (by omega),aC h5]at h6;exact h6
 split at hd
 ·obtain⟨kc,_,h1,_⟩:=hd
  rw[h1];exact⟨h.k,h.l,h.b⟩
 split at hd
 ·rw[hd.1]
  refine⟨λd hd=>?_,h.l,h.b⟩
  split at hd
  ·exact h.k d hd
  ·exact h.k d hd
 ·obtain⟨A',oK,kc,h1,_,_⟩:=hd
  rw[h1]
  have hL:(qf qt N.A N.s).L=N.s.L:=by
   unfold qf
   repeat' split
   all_goals first|rfl|exact jf.akD _
  refine⟨λd hd=>?_,h.l,λr hr=>?_⟩
  ·have hd:d∈(qf qt N.A N.s).L:=hd
   rw[hL]at hd;exact h.k d hd
  ·have hr:r∈(if (tI qt N.A N.s).2=0/\(tI qt N.A N.s).1=0 then N.B.shift else N.B).dE:=hr
   split at hr
   ·obtain⟨q,hq,rfl⟩:=aV.1 hr
    exact h.b q hq
   ·exact h.b r hr
theorem aiK(h:OW N):OW N.AA:=⟨h.k,h.l,λr hr=>h.b r (cH.1 hr).1⟩
theorem an3(h:OW N):∀z∈N.Nb,OM N.c N.n z:=λz hz=>by
 obtain⟨r,hr,rfl⟩:=aV.1 hz;exact h.b r (cH.1 hr).1
theorem ajb:OW (N0 r n ns):=⟨λx hx=>(by cases hx),λx hx=>(by cases hx),λx hx=>(by cases hx)⟩
def sE(n:Int):vF:=⟨n,0,ByteArray.empty,(0,0,0),0,fP⟩
def Nk:iS:=⟨(none,0),(none,0),(none,0)⟩
theorem QC(n:Int):ON (sE n):=
 ⟨⟨⟨(by intro c hc;cases hc),⟨rV,(by intro c hc;cases hc)⟩,by show 0<=_;omega⟩,by show(0:Int)<=0/\(0:Int)<_;omega⟩,⟨by show 0<=_;omega,by show 0<=_;omega,by show 0<=_;omega,(by intro c hc;cases hc)⟩⟩
theorem B1(m:aD)(n:Int):vC m (sE n) Nk:=(QC n).at (by show 0<=_;omega) ⟨rfl,(Io.nil _).il.ia,(I0.nil _).dl.da,lu.nil _⟩
theorem G2(n:Int):∀(l dE:List Int) (x:Int),x∈dE->x∈iM n dE l
 |[],dE,x,h=>h
 |y::l,dE,x,h=>by
  unfold iM;refine G2 n l _ x ?_;split
  ·exact lJ _ h
  ·exact h
theorem P1(n:Int):∀(l dE:List Int),dE.Nodup->(iM n dE l).Nodup
 |[],dE,h=>h
 |y::l,dE,h=>by
  unfold iM;refine P1 n l _ ?_;split
  ·rename_i h1
   simp only[aB,dH,jS,gz]at h1;exact uH.2 ⟨h,by simp,λa ha b hb=>by rw[aL.1 hb];intro e;exact h1.2 (e▸ha)⟩
  ·exact h
theorem K3(n:Int):∀(l dE:List Int) (x:Int),x∈iM n dE l->x∈dE\/x∈l
 |[],dE,x,h=>.inl h
 |y::l,dE,x,h=>by
  unfold iM at h;rcases K3 n l _ x h with h|h
  ·split at h
   ·rcases aR.1 h with h|h
    ·exact .inl h
    ·exact .inr (aU.2 (.inl (aL.1 h)))
   ·exact .inl h
  ·exact .inr (bO _ h)
theorem K5(n:Int):∀(l dE:List Int),(iM n dE l).length<n->∀x∈l,x∈iM n dE l
 |[],dE,_,x,hx=>by cases hx
 |y::l,dE,h,x,hx=>by
  unfold iM at h⊢;rcases aU.1 hx with rfl|hx
  ·refine G2 n l _ _ ?_
   split
   ·exact jp _ (aL.2 rfl)
   ·rename_i h1
    simp only[aB,dH,jS,gz,bA,not_and,lM]at h1;refine h1 ?_;rw[if_neg (by simp only[aB,dH,jS,gz,bA,not_and,lM];exact h1)]at h
    have:dE.length<=(iM n dE l).length:=by
     have hs:∀(l dE:List Int),dE.length<=(iM n dE l).length:=by
      intro l
      induction l with
      |nil=>intro dE;exact aW _
      |cons z l ih=>
       intro dE;unfold iM;refine bq ?_ (ih _);split
       ·simp
       ·exact aW _
     exact hs l dE
    omega
  ·exact K5 n l _ h x hx
theorem ao1{l:List Int}(h:∀x,x=1\/x=2\/x=3↔x∈l):(iM 3 [] l).Nodup/\∀x,x∈iM 3 [] l↔x=1\/x=2\/x=3:=by
 have hn:=P1 3 l [] List.nodup_nil;have hs:=K3 3 l []
 have key:∀x,x=1\/x=2\/x=3->x∈iM 3 [] l:=by
  by_cases hl:((iM 3 [] l).length:Int)<3
  ·exact λx hx=>K5 3 l [] hl x ((h x).1 hx)
  ·intro x hx
   refine Decidable.byContradiction λhc=>?_;have hp:=dz.1 hn
   have hm:∀(i:Nat) (hi:i<(iM 3 [] l).length),((iM 3 [] l)[i]=1\/(iM 3 [] l)[i]=2\/(iM 3 [] l)[i]=3)/\(iM 3 [] l)[i]≠x:=λi hi=>by
    have hi2:=aO hi
    grind
   have m0:=hm 0 (by omega);have m1:=hm 1 (by omega);have m2:=hm 2 (by omega)
   grind
 grind
end Go.E.Y
